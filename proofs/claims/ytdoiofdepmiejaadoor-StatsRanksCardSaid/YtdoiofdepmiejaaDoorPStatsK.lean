/- Numbers by their place, what they come to, and their line: the program's are the document's. -/
import Derived.Test.YtdoiofdepmiejaaDoorPStatsR
import Derived.Test.YtdoiofdepmiejaaDoorPNumG
namespace Go.Proofs.YtdoiofdepmiejaaDoor.Pure
open Go.Ev Go.RowKit

/-! The document's order. -/
def pos (x : Int) (o : List Int) : Nat := (o.takeWhile fun y => decide (y ≤ x)).length
def insR (o : List Int) (x : Int) : List Int := o.take (pos x o) ++ [x] ++ o.drop (pos x o)
theorem pos_le (x : Int) : ∀ o : List Int, pos x o ≤ o.length
  | [] => by simp [pos]
  | y :: o => by
    have := pos_le x o
    simp only [pos, List.takeWhile_cons] at this ⊢
    split <;> simp <;> omega
theorem pos_lt {x : Int} : ∀ {o : List Int} {k : Nat}, k < pos x o → o.getD k 0 ≤ x
  | [], k, h => by simp [pos] at h
  | y :: o, k, h => by
    simp only [pos, List.takeWhile_cons] at h
    cases hc : decide (y ≤ x) with
    | false => rw [hc] at h; simp at h
    | true =>
      rw [hc] at h
      simp only [if_true, List.length_cons] at h
      cases k with
      | zero => exact of_decide_eq_true hc
      | succ k => exact pos_lt (o := o) (k := k) (by simp only [pos]; omega)
theorem pos_at {x : Int} : ∀ {o : List Int}, pos x o < o.length → ¬ o.getD (pos x o) 0 ≤ x
  | [], h => by simp at h
  | y :: o, h => by
    cases hc : decide (y ≤ x) with
    | false =>
      have e : pos x (y :: o) = 0 := by simp only [pos, List.takeWhile_cons, hc]; rfl
      rw [e]
      exact of_decide_eq_false hc
    | true =>
      have e : pos x (y :: o) = pos x o + 1 := by simp only [pos, List.takeWhile_cons, hc]; rfl
      rw [e] at h ⊢
      exact pos_at (o := o) (by simpa using h)
theorem insR_length (o : List Int) (x : Int) : (insR o x).length = o.length + 1 := by
  have := pos_le x o
  simp [insR]; omega
theorem insR_perm (o : List Int) (x : Int) : (insR o x).Perm (x :: o) := by
  simp only [insR, List.append_assoc, List.singleton_append]
  refine List.perm_middle.trans ?_
  rw [List.take_append_drop]
theorem getD_mem {o : List Int} {k : Nat} {y : Int} (h : o[k]? = some y) : o.getD k 0 = y := by simp [List.getD_eq_getElem?_getD, h]
theorem insR_sorted {o : List Int} (x : Int) (h : o.Pairwise (· ≤ ·)) : (insR o x).Pairwise (· ≤ ·) := by
  have hl : ∀ y ∈ o.take (pos x o), y ≤ x := by
    intro y hy
    obtain ⟨k, hk⟩ := List.mem_iff_getElem?.1 hy
    have hlt := (List.getElem?_eq_some_iff.1 hk).1
    rw [List.length_take] at hlt
    rw [List.getElem?_take] at hk
    split at hk
    · rw [← getD_mem hk]; exact pos_lt (by omega)
    · cases hk
  have hr : ∀ y ∈ o.drop (pos x o), x ≤ y := by
    intro y hy
    obtain ⟨k, hk⟩ := List.mem_iff_getElem?.1 hy
    rw [List.getElem?_drop] at hk
    have hlt := (List.getElem?_eq_some_iff.1 hk).1
    have h1 := pos_at (x := x) (o := o) (by omega)
    have h2 := sorted_at h (i := pos x o) (j := pos x o + k) (by omega) hlt
    rw [getD_mem hk] at h2
    omega
  have hp := List.pairwise_append.1 (show (o.take (pos x o) ++ o.drop (pos x o)).Pairwise (· ≤ ·) by rw [List.take_append_drop]; exact h)
  simp only [insR, List.append_assoc, List.singleton_append]
  refine List.pairwise_append.2 ⟨hp.1, List.pairwise_cons.2 ⟨hr, hp.2.1⟩, fun y hy z hz => ?_⟩
  simp only [List.mem_cons] at hz
  rcases hz with rfl | hz
  · exact hl y hy
  · exact hp.2.2 y hy z hz
theorem foldR : ∀ (l o : List Int), o.Pairwise (· ≤ ·) → (l.foldl insR o).Pairwise (· ≤ ·) ∧ (l.foldl insR o).Perm (l ++ o) ∧ (l.foldl insR o).length = l.length + o.length
  | [], o, h => ⟨h, .refl _, by simp⟩
  | x :: l, o, h => by
    obtain ⟨h1, h2, h3⟩ := foldR l (insR o x) (insR_sorted x h)
    refine ⟨h1, h2.trans ?_, by rw [List.foldl_cons, h3, insR_length, List.length_cons]; omega⟩
    exact ((insR_perm o x).append_left l).trans List.perm_middle
theorem foldR_eq (l : List Int) : l.foldl insR [] = isort l := by
  obtain ⟨h1, h2, _⟩ := foldR l [] .nil
  rw [List.append_nil] at h2
  exact eq_of_sorted (h2.trans (isort_perm l).symm) h1 (isort_sorted l)

theorem leatref52_sorted_L6_eq (N : Nat) (hN : 2000 < N) (i : Nat) (x : Int) (l o : List Int) (hx : l[i]? = some x) (ho : o.length ≤ 1000) : iter (W.leatref52_sorted_L6 N) N (((i : Int), (0, ())), (l, (o, ()))) = some (((i : Int), ((pos x o : Int), ())), (l, (o, ()))) := by
  have hp := pos_le x o
  have hlt := (List.getElem?_eq_some_iff.1 hx).1
  refine iter_some (I := fun z => ∃ k : Nat, z = (((i : Int), ((k : Int), ())), (l, (o, ()))) ∧ k ≤ pos x o) (fun z => pos x o - z.1.2.1.toNat) _ ?_ N _ ⟨0, rfl, by omega⟩ (by simp only; omega)
  rintro F _ ⟨k, rfl, hk⟩
  by_cases h : k < pos x o
  · left
    refine ⟨(((i : Int), (((k + 1 : Nat) : Int), ())), (l, (o, ()))), ⟨k + 1, rfl, by omega⟩, by simp only [Int.toNat_natCast]; omega, ?_⟩
    have := pos_lt h
    simp only [W.leatref52_sorted_L6]
    rw [decide_eq_true (show (k : Int) < ((o.length : Nat) : Int) by omega), beq_self_eq_true, cond_true, Bool.and_true, decide_eq_true (show (0 : Int) ≤ (k : Int) by omega), cond_true, in_len hlt, cond_true, getD_at hx, Int.toNat_natCast, bift this, wrapI64 (by omega) (by omega)]
    rfl
  · right
    obtain rfl : k = pos x o := by omega
    simp only [W.leatref52_sorted_L6]
    by_cases hl : pos x o < o.length
    · have := pos_at hl
      rw [decide_eq_true (show ((pos x o : Nat) : Int) < ((o.length : Nat) : Int) by omega), beq_self_eq_true, cond_true, Bool.and_true, decide_eq_true (show (0 : Int) ≤ ((pos x o : Nat) : Int) by omega), cond_true, in_len hlt, cond_true, getD_at hx, Int.toNat_natCast, biff this]
    · rw [decide_eq_false (show ¬ ((pos x o : Nat) : Int) < ((o.length : Nat) : Int) by omega)]
      rfl

theorem leatref52_sorted_eq (N : Nat) (hN : 2000 < N) (l : List Int) (hl : l.length ≤ 1000) : W.leatref52_sorted N ((), (l, ())) = some ((), (isort l, ())) := by
  have key := iter_fold (round := W.leatref52_sorted_L3 N) l (fun k (o : List Int) => (((k : Int), ()), (l, (o, ())))) ((), (isort l, ())) insR [] (fun F k x hx => by
    have hlt := (List.getElem?_eq_some_iff.1 hx).1
    have hlen := (foldR (l.take k) [] .nil).2.2
    have htk : (l.take k).length = k := by simp; omega
    rw [htk] at hlen
    generalize (l.take k).foldl insR [] = o at hlen
    simp only [List.length_nil, Nat.add_zero] at hlen
    have hp := pos_le x o
    have c1 : cutL o 0 ((pos x o : Nat) : Int) = o.take (pos x o) := by simp [cutL]
    have c2 : cutL o ((pos x o : Nat) : Int) ((o.length : Nat) : Int) = o.drop (pos x o) := by simp only [cutL, Int.toNat_natCast, List.take_length]
    simp only [W.leatref52_sorted_L3]
    rw [bift (by omega), leatref52_sorted_L6_eq N hN k x l o hx (by omega), Option.bind_some]
    simp only [c1, c2, List.nil_append, List.length_nil, Nat.zero_add, List.length_append, List.length_singleton, List.length_take, List.length_drop]
    rw [in_len hlt, decide_eq_true (show (0 : Int) ≤ ((pos x o : Nat) : Int) by omega), decide_eq_true (show ((pos x o : Nat) : Int) ≤ ((o.length : Nat) : Int) by omega), decide_eq_true (show ((o.length : Nat) : Int) ≤ ((o.length : Nat) : Int) by omega)]
    simp only [Bool.and_self, cond_true]
    rw [bift (by omega), bift (by omega), bift (by omega), getD_at hx, wrapI64 (by omega) (by omega)]
    rfl) (fun F => by
    rw [foldR_eq]
    simp only [W.leatref52_sorted_L3]
    rw [biff (by omega)]) N (by omega)
  simp only [W.leatref52_sorted]
  rw [show ((0 : Int)) = ((0 : Nat) : Int) from rfl, key, Option.bind_some]

/-! A number by its place. -/
theorem isort_I {l : List Int} (h : ∀ x ∈ l, I64 x) {k : Nat} (hk : k < l.length) : I64 ((isort l).getD k 0) := by
  rw [List.getD_eq_getElem?_getD, List.getElem?_eq_getElem (by rw [isort_length]; exact hk)]
  exact h _ ((isort_perm l).subset (List.getElem_mem _))
theorem Rank_j1_eq (N : Nat) (hN : 2000 < N) (l : List Int) (hl : l.length ≤ 1000) (a p w : Int) (k : Nat) (e : imn (imx a 1) w = p) (hm : W.leatref02_MulDiv N ((l.length : Nat) : Int) p w true = some (mdv (l.length : Int) p w true)) (a2 : mdv (l.length : Int) p w true = ((k : Int) + 1, 0)) (a3 : k < l.length) :
    W.leatref52_Rank_j1 N l a w = some ((isort l).getD k 0, true) := by
  have hs := isort_length l
  simp only [W.leatref52_Rank_j1]
  rw [e, hm, a2, Option.bind_some, leatref52_sorted_eq N hN l hl, Option.bind_some]
  simp only
  rw [show (k : Int) + 1 - 1 = (k : Int) by omega, wrapI64 (by omega) (by omega), in_len (by omega), cond_true, Int.toNat_natCast]
theorem Rank_both (N : Nat) (hN : 2000 < N) (l : List Int) (hl : l.length ≤ 1000) (h : ∀ x ∈ l, I64 x) (a b : Int) (ha : I64 a) (hb : I64 b) : ∃ (p : Int) (q : Bool), W.stats_Rank N l a b = some (p, q) ∧ W.leatref52_Rank N l a b = some (p, q) ∧ I64 p := by
  by_cases h0 : l.length = 0
  · refine ⟨0, false, ?_, ?_, by omega, by omega⟩
    · simp only [W.stats_Rank]
      rw [h0]
      rfl
    · simp only [W.leatref52_Rank]
      rw [h0]
      rfl
  · have hs := isort_length l
    obtain ⟨w, hw⟩ : ∃ w, w = max b 1 := ⟨_, rfl⟩
    obtain ⟨p, hp⟩ : ∃ p, p = max 1 (min a w) := ⟨_, rfl⟩
    obtain ⟨k, a1, a2, a3, _, _⟩ := stats_rank_gen N hN (isort l) (by omega) (by omega) p w (by omega) (by omega) (by omega)
    rw [hs] at a2 a3
    have hm := leatref02_MulDiv_eq N (a := ((l.length : Nat) : Int)) (b := p) (c := w) ⟨by omega, by omega⟩ ⟨by omega, by omega⟩ ⟨by omega, by omega⟩ true hN
    have hr : W.stats_rank N (isort l) a b = W.stats_rank N (isort l) p w := by
      simp only [W.stats_rank, sat_Clamp_eq, Option.bind_some]
      have e1 : imx b 1 = w := by rw [imx_max, hw]
      have e2 : imx w 1 = w := by rw [imx_max]; omega
      have e3 : cl a 1 w = p := by rw [hp]; rfl
      have e4 : cl p 1 w = p := by simp only [cl]; omega
      rw [e1, e2, e3, e4]
    refine ⟨(isort l).getD k 0, true, ?_, ?_, isort_I h a3⟩
    · simp only [W.stats_Rank]
      rw [beq_eq_false_iff_ne.2 (show ¬ ((l.length : Nat) : Int) = 0 by omega), cond_false, sorted_eq N l (by omega) (by omega), Option.bind_some, hr, a1, Option.bind_some]
    · have e : imn (imx a 1) w = p := by rw [imn_min, imx_max]; omega
      simp only [W.leatref52_Rank]
      rw [beq_eq_false_iff_ne.2 (show ¬ ((l.length : Nat) : Int) = 0 by omega), cond_false]
      by_cases hb1 : b < 1
      · obtain rfl : w = 1 := by omega
        rw [bift hb1]
        exact Rank_j1_eq N hN l hl a p 1 k e hm a2 a3
      · obtain rfl : w = b := by omega
        rw [biff hb1]
        exact Rank_j1_eq N hN l hl a p w k e hm a2 a3

theorem leatref01_Sum_some (N : Nat) (l : List Int) (hl : l.length ≤ 1000) (hN : 2000 < N) (h : ∀ x ∈ l, I64 x) : W.leatref01_Sum N l = some (l.foldl sadd 0) ∧ I64 (l.foldl sadd 0) := by
  have hI : ∀ (l : List Int) (a : Int), I64 a → I64 (l.foldl sadd a) := by
    intro l
    induction l with
    | nil => intro a ha; exact ha
    | cons x l ih => intro a _; exact ih _ (sadd_I _ _)
  have key := iter_fold (round := W.leatref01_Sum_L3 N) l (fun k (a : Int) => ((a, ((k : Int), ())), (l, ()))) ((l.foldl sadd 0, ()), ()) sadd 0 (fun F k x hx => by
    have hlt := (List.getElem?_eq_some_iff.1 hx).1
    have hk := hI (l.take k) 0 ⟨by omega, by omega⟩
    simp only [W.leatref01_Sum_L3]
    rw [bift (by omega), in_len hlt, cond_true, getD_at hx, leatref01_Add_eq N hk (h x (List.mem_of_getElem? hx)), Option.bind_some, wrapI64 (by omega) (by omega)]
    rfl) (fun F => by
    simp only [W.leatref01_Sum_L3]
    rw [biff (by omega)]) N (by omega)
  refine ⟨?_, hI l 0 ⟨by omega, by omega⟩⟩
  have key' : iter (W.leatref01_Sum_L3 N) N ((0, (0, ())), (l, ())) = some ((l.foldl sadd 0, ()), ()) := key
  simp only [W.leatref01_Sum]
  rw [key', Option.bind_some]

theorem ref_rank (N : Nat) (hN : 2000 < N) (l : List Int) (h0 : 0 < l.length) (hl : l.length ≤ 1000) (p w : Int) (hp : 1 ≤ p) (hpw : p ≤ w) (hw : w ≤ 1000) : ∃ k : Nat, W.stats_rank N (isort l) p w = some ((isort l).getD k 0) ∧ W.leatref52_Rank N l p w = some ((isort l).getD k 0, true) ∧ k < l.length := by
  have hs := isort_length l
  obtain ⟨k, a1, a2, a3, _, _⟩ := stats_rank_gen N hN (isort l) (by omega) (by omega) p w (by omega) (by omega) (by omega)
  rw [hs] at a2 a3
  have hm := leatref02_MulDiv_eq N (a := ((l.length : Nat) : Int)) (b := p) (c := w) ⟨by omega, by omega⟩ ⟨by omega, by omega⟩ ⟨by omega, by omega⟩ true hN
  refine ⟨k, a1, ?_, a3⟩
  have e : imn (imx p 1) w = p := by rw [imn_min, imx_max]; omega
  simp only [W.leatref52_Rank]
  rw [beq_eq_false_iff_ne.2 (show ¬ ((l.length : Nat) : Int) = 0 by omega), cond_false, biff (show ¬ w < 1 by omega)]
  exact Rank_j1_eq N hN l hl p p w k e hm a2 a3

theorem Of_both (N : Nat) (hN : 2000 < N) (c : List Int) (h1 : c.length ≤ 1000) (hI : ∀ x ∈ c, I64 x) :
    ∃ m su le mo ha ni la : Int, W.stats_Of N c = some (m, (su, (le, (mo, (ha, (ni, la)))))) ∧ W.leatref52_Of N c = some (m, (su, (le, (mo, (ha, (ni, la)))))) ∧ ∀ x ∈ [m, su, le, mo, ha, ni, la], I64 x := by
  by_cases h0 : c.length = 0
  · refine ⟨0, 0, 0, 0, 0, 0, 0, ?_, ?_, fun x hx => by simp at hx; subst hx; constructor <;> omega⟩
    · simp only [W.stats_Of]
      rw [h0]
      rfl
    · simp only [W.leatref52_Of]
      rw [h0]
      rfl
  · have hl := isort_length c
    obtain ⟨s1, s2⟩ := leatref01_Sum_some N c h1 hN hI
    obtain ⟨k1, a1, a2, a3⟩ := ref_rank N hN c (by omega) h1 1 2 (by omega) (by omega) (by omega)
    obtain ⟨k2, b1, b2, b3⟩ := ref_rank N hN c (by omega) h1 9 10 (by omega) (by omega) (by omega)
    obtain ⟨k3, c1, c2, c3⟩ := ref_rank N hN c (by omega) h1 99 100 (by omega) (by omega) (by omega)
    refine ⟨((c.length : Nat) : Int), c.foldl sadd 0, (isort c).getD 0 0, (isort c).getD (c.length - 1) 0, (isort c).getD k1 0, (isort c).getD k2 0, (isort c).getD k3 0, ?_, ?_, ?_⟩
    · simp only [W.stats_Of]
      rw [beq_eq_false_iff_ne.2 (show ¬ ((c.length : Nat) : Int) = 0 by omega), cond_false, sorted_eq N c (by omega) (by omega), Option.bind_some, sat_Sum_some N c h1 hN hI, Option.bind_some, hl, bift (by omega), wrapI64 (by omega) (by omega),
        show ((c.length : Nat) : Int) - 1 = ((c.length - 1 : Nat) : Int) by omega, in_len (by omega), cond_true, a1, Option.bind_some, b1, Option.bind_some, c1, Option.bind_some]
      simp only [Int.toNat_natCast, Int.toNat_zero]
    · simp only [W.leatref52_Of]
      rw [beq_eq_false_iff_ne.2 (show ¬ ((c.length : Nat) : Int) = 0 by omega), cond_false, leatref52_sorted_eq N hN c h1, Option.bind_some, a2, Option.bind_some, b2, Option.bind_some, c2, Option.bind_some, s1, Option.bind_some]
      simp only
      rw [hl, bift (by omega), wrapI64 (by omega) (by omega), show ((c.length : Nat) : Int) - 1 = ((c.length - 1 : Nat) : Int) by omega, in_len (by omega), cond_true]
      simp only [Int.toNat_natCast, Int.toNat_zero]
    · intro x hx
      simp only [List.mem_cons, List.not_mem_nil, or_false] at hx
      rcases hx with rfl | rfl | rfl | rfl | rfl | rfl | rfl
      · omega
      · exact s2
      · exact isort_I hI (by omega)
      · exact isort_I hI (by omega)
      · exact isort_I hI a3
      · exact isort_I hI b3
      · exact isort_I hI c3

/-! The document's line. -/
def bA (l : List UInt8) : ByteArray := ⟨l.toArray⟩
theorem bA_app (a b : List UInt8) : bA a ++ bA b = bA (a ++ b) := by
  apply ByteArray.ext
  simp [bA, ByteArray.data_append]
theorem bA_size (a : List UInt8) : (bA a).size = a.length := by simp [bA, ByteArray.size]
theorem numG_cons (x : Int) (l : List Int) : numG (x :: l) = 32 :: Lib.itoa x ++ numG l := by simp [numG]
theorem numG_foldl : ∀ (l : List Int) (a : List UInt8), l.foldl (fun s n => s ++ [32] ++ Lib.itoa n) a = a ++ numG l
  | [], a => by simp [numG]
  | x :: l, a => by rw [List.foldl_cons, numG_foldl l, numG_cons]; simp
theorem row_eq (N : Nat) (hN : 2000 < N) (a : List UInt8) (ha : a.length ≤ 1000) (l : List Int) (hl : l.length ≤ 1000) (h : ∀ x ∈ l, I64 x) : W.leatref52_row N (bA a) l = some (bA (a ++ (numG l ++ [10]))) := by
  have t1 : W.leatref52_row_tab0 = bA [32] := by decide +kernel
  have t2 : W.leatref52_row_tab1 = bA [10] := by decide +kernel
  have hg : ∀ k, (numG (l.take k)).length ≤ 22000 := by
    intro k
    have := numG_len (l.take k) fun y hy => h y (List.mem_of_mem_take hy)
    simp at this; omega
  have key := iter_fold (round := W.leatref52_row_L2 N) l (fun k (s : List UInt8) => ((bA s, ((k : Int), ())), (l, ()))) ((bA (a ++ numG l), ()), ()) (fun s n => s ++ [32] ++ Lib.itoa n) a (fun F k x hx => by
    have hlt := (List.getElem?_eq_some_iff.1 hx).1
    have hxI := h x (List.mem_of_getElem? hx)
    have hk := hg k
    have hi := itoa_len x hxI.1 hxI.2
    have e : textT x = some (bA (Lib.itoa x)) := by rw [textT, if_pos hxI]; rfl
    rw [numG_foldl]
    simp only [W.leatref52_row_L2, W.leatref41_Text, t1]
    rw [bift (by omega), bA_size, bA_size, bift (by simp; omega), in_len hlt, cond_true, getD_at hx, e, Option.bind_some, bA_app, bA_size, bA_size, bift (by simp; omega), bA_app, wrapI64 (by omega) (by omega)]
    rfl) (fun F => by
    rw [numG_foldl]
    simp only [W.leatref52_row_L2]
    rw [biff (by omega)]) N (by omega)
  have hn := numG_len l h
  have key' : iter (W.leatref52_row_L2 N) N ((bA a, (0, ())), (l, ())) = some ((bA (a ++ numG l), ()), ()) := key
  simp only [W.leatref52_row, t2]
  rw [key', Option.bind_some, bA_size, bA_size, bift (by simp; omega), bA_app]
  simp

theorem Line_ref (N : Nat) (hN : 2000 < N) (a : List UInt8) (ha : a.length ≤ 1000) (c : List Int) {m su le mo ha' ni la : Int} (h : W.leatref52_Of N c = some (m, (su, (le, (mo, (ha', (ni, la))))))) (hI : ∀ x ∈ [m, su, le, mo, ha', ni, la], I64 x) :
    W.leatref52_Line N (bA a) c = some (bA (a ++ (numG [m, su, le, mo, ha', ni, la] ++ [10]))) := by
  simp only [W.leatref52_Line]
  rw [h, Option.bind_some]
  simp only
  rw [row_eq N hN a ha _ (by simp) hI, Option.bind_some]

end Go.Proofs.YtdoiofdepmiejaaDoor.Pure
