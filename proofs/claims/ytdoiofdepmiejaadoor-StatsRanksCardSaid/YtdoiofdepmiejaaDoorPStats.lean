/- Buckets, shares and bars of any numbers: the program's are the document's. -/
import Derived.Test.YtdoiofdepmiejaaDoorPWideL
namespace Go.Proofs.YtdoiofdepmiejaaDoor.Pure
open Go.Ev Go.RowKit

/-- A list, item by item. -/
theorem iter_fold {X Y A α : Type} {round : (X → Option Y) → X → Option Y} (l : List α) (mk : Nat → A → X) (y : Y) (step : A → α → A) (a0 : A)
    (hs : ∀ F k x, l[k]? = some x → round F (mk k ((l.take k).foldl step a0)) = F (mk (k + 1) (step ((l.take k).foldl step a0) x)))
    (he : ∀ F, round F (mk l.length (l.foldl step a0)) = some y) (N : Nat) (hN : l.length < N) : iter round N (mk 0 a0) = some y := by
  have key : ∀ j k, k + j = l.length → ∀ M, j < M → iter round M (mk k ((l.take k).foldl step a0)) = some y := by
    intro j
    induction j with
    | zero =>
      intro k hk M hM
      obtain ⟨m, rfl⟩ : ∃ m, M = m + 1 := ⟨M - 1, by omega⟩
      obtain rfl : k = l.length := by omega
      rw [List.take_length]
      exact he _
    | succ j ih =>
      intro k hk M hM
      obtain ⟨m, rfl⟩ : ∃ m, M = m + 1 := ⟨M - 1, by omega⟩
      obtain ⟨x, hx⟩ : ∃ x, l[k]? = some x := ⟨_, List.getElem?_eq_getElem (by omega)⟩
      have h1 : iter round (m + 1) (mk k ((l.take k).foldl step a0)) = round (iter round m) (mk k ((l.take k).foldl step a0)) := rfl
      have h2 : (l.take (k + 1)).foldl step a0 = step ((l.take k).foldl step a0) x := by rw [List.take_add_one, hx]; simp
      rw [h1, hs _ k x hx, ← h2]
      exact ih (k + 1) (by omega) m (by omega)
  exact key l.length 0 (by omega) N hN

theorem getD_at {l : List Int} {k : Nat} {x : Int} (h : l[k]? = some x) : l.getD ((k : Int)).toNat 0 = x := by simp [List.getD_eq_getElem?_getD, h]
theorem in_len {k n : Nat} (h : k < n) : ((decide ((0 : Int) ≤ (k : Int))) && (decide ((k : Int) < (n : Int)))) = true := by simp; omega

/-- How many bits a number has. -/
def bl (n : Int) : Nat := bitLen n.toNat
theorem bl_nonpos {n : Int} (h : n ≤ 0) : bl n = 0 := by
  have : n.toNat = 0 := by omega
  simp [bl, bitLen, this]
theorem bl_pos {n : Int} (h : 0 < n) : bl n = bl (n / 2) + 1 := by
  by_cases h2 : n / 2 = 0
  · obtain rfl : n = 1 := by omega
    decide +kernel
  · have := bitLen_shiftI (x := n) (by omega) 1 (by simpa using h2)
    simp only [bl]
    rw [this, show (2 : Int) ^ 1 = 2 from rfl, Nat.add_comm]
theorem bl_pow {n : Int} (k : Nat) : (2 : Int) ^ k ≤ n ↔ k < bl n := by
  by_cases h : 0 < n
  · obtain ⟨l, h1, h2, h3⟩ := bitLen_I n h
    have e : bl n = l + 1 := h1
    rw [e]
    constructor
    · intro hk
      apply Nat.lt_of_not_le
      intro hlk
      have : (2 : Int) ^ (l + 1) ≤ 2 ^ k := by exact_mod_cast Nat.pow_le_pow_right (n := 2) (by omega) hlk
      omega
    · intro hk
      have : (2 : Int) ^ k ≤ 2 ^ l := by exact_mod_cast Nat.pow_le_pow_right (n := 2) (by omega) (show k ≤ l by omega)
      omega
  · have h0 := bl_nonpos (n := n) (by omega)
    have := pow_pos' k
    omega
theorem bl_le {n : Int} (h : I64 n) : bl n ≤ 63 := by
  apply Nat.le_of_not_lt
  intro hk
  have := (bl_pow (n := n) 63).2 hk
  omega

def padTo (o : List Int) (k : Nat) : List Int := o ++ List.replicate (k + 1 - o.length) 0
theorem padTo_step {o : List Int} {k : Nat} (h : o.length ≤ k) : padTo (o ++ [0]) k = padTo o k := by
  simp only [padTo, List.length_append, List.length_singleton, List.append_assoc]
  rw [show k + 1 - o.length = (k + 1 - (o.length + 1)) + 1 by omega, List.replicate_succ]
  rfl
theorem padTo_done {o : List Int} {k : Nat} (h : k < o.length) : padTo o k = o := by simp [padTo, show k + 1 - o.length = 0 by omega]
theorem padTo_length (o : List Int) (k : Nat) : (padTo o k).length = max o.length (k + 1) := by simp [padTo]; omega
def bkS (o : List Int) (n : Int) : List Int := (padTo o (bl n)).set (bl n) (IntKind.wrap .i64 ((padTo o (bl n)).getD (bl n) 0 + 1))
def bkA (l : List Int) : List Int := l.foldl bkS []
theorem bkS_length {o : List Int} {n : Int} (ho : o.length ≤ 64) (hn : I64 n) : (bkS o n).length ≤ 64 := by
  have := bl_le hn
  simp only [bkS, List.length_set, padTo_length]
  omega
theorem bkF_length : ∀ (l o : List Int), o.length ≤ 64 → (∀ x ∈ l, I64 x) → (l.foldl bkS o).length ≤ 64
  | [], o, ho, _ => ho
  | x :: l, o, ho, h => bkF_length l _ (bkS_length ho (h x (by simp))) fun y hy => h y (by simp [hy])

theorem stats_Buckets_L6_eq (N : Nat) (hN : 2000 < N) (n m k : Int) (hn : I64 n) (o l : List Int) : iter (W.stats_Buckets_L6 N) N ((n, (0, (m, (k, ())))), (o, (l, ()))) = some (((bl n : Int), (m, (k, ()))), (o, (l, ()))) := by
  have hb := bl_le hn
  refine iter_some (I := fun x => ∃ (n' : Int) (i : Nat), x = ((n', ((i : Int), (m, (k, ())))), (o, (l, ()))) ∧ i + bl n' = bl n) (fun x => bl x.1.1) _ ?_ N _ ⟨n, 0, rfl, by omega⟩ (by simp only; omega)
  rintro F _ ⟨n', i, rfl, hi⟩
  by_cases h : 0 < n'
  · have hp := bl_pos h
    left
    refine ⟨((n' / 2, (((i + 1 : Nat) : Int), (m, (k, ())))), (o, (l, ()))), ⟨n' / 2, i + 1, rfl, by omega⟩, by simp only; omega, ?_⟩
    simp only [W.stats_Buckets_L6]
    rw [bift h, fdiv_pos (by omega), wrapI64 (by omega) (by omega)]
    rfl
  · right
    have h0 : bl n' = 0 := bl_nonpos (by omega)
    simp only [W.stats_Buckets_L6]
    rw [biff h, show i = bl n by omega]

theorem stats_Buckets_L9_eq (N : Nat) (hN : 2000 < N) (b : Nat) (hb : b ≤ 63) (m k : Int) (o l : List Int) (ho : o.length ≤ 64) :
    iter (W.stats_Buckets_L9 N) N (((b : Int), (m, (k, ()))), (o, (l, ()))) = some (((b : Int), (m, (k, ()))), (padTo o b, (l, ()))) := by
  refine iter_some (I := fun x => ∃ o' : List Int, x = (((b : Int), (m, (k, ()))), (o', (l, ()))) ∧ padTo o' b = padTo o b ∧ o'.length ≤ 64) (fun x => b + 1 - x.2.1.length) _ ?_ N _ ⟨o, rfl, rfl, ho⟩ (by simp only; omega)
  rintro F _ ⟨o', rfl, hp, hl⟩
  by_cases h : o'.length ≤ b
  · left
    refine ⟨(((b : Int), (m, (k, ()))), (o' ++ [0], (l, ()))), ⟨o' ++ [0], rfl, by rw [padTo_step h, hp], by simp; omega⟩, by simp only [List.length_append, List.length_singleton]; omega, ?_⟩
    simp only [W.stats_Buckets_L9]
    rw [bift (by omega), bift (by simp only [List.length_singleton]; omega)]
  · right
    simp only [W.stats_Buckets_L9]
    rw [biff (by omega), ← hp, padTo_done (by omega)]

theorem stats_Buckets_eq (N : Nat) (hN : 2000 < N) (l : List Int) (hl : l.length ≤ 1000) (h : ∀ x ∈ l, I64 x) : W.stats_Buckets N l = some (bkA l) := by
  have key := iter_fold (round := W.stats_Buckets_L3 N) l (fun k (a : List Int) => ((((l.length : Nat) : Int), ((k : Int), ())), (a, (l, ())))) ((), (bkA l, ())) bkS [] (fun F k x hx => by
    have hlt := (List.getElem?_eq_some_iff.1 hx).1
    have hxI := h x (List.mem_of_getElem? hx)
    have hlen := bkF_length (l.take k) [] (by simp) fun y hy => h y (List.mem_of_mem_take hy)
    have hb := bl_le hxI
    generalize (l.take k).foldl bkS [] = o at hlen
    simp only [W.stats_Buckets_L3]
    have hpl := padTo_length o (bl x)
    rw [bift (by omega), in_len hlt, cond_true, getD_at hx, stats_Buckets_L6_eq N hN x _ _ hxI, Option.bind_some, stats_Buckets_L9_eq N hN _ hb _ _ _ _ hlen, Option.bind_some]
    simp only
    rw [in_len (by omega), cond_true, cond_true, wrapI64 (by omega) (by omega)]
    rfl) (fun F => by
    simp only [W.stats_Buckets_L3]
    rw [biff (by omega)]
    rfl) N (by omega)
  simp only [W.stats_Buckets]
  rw [show ((0 : Int)) = ((0 : Nat) : Int) from rfl, key, Option.bind_some]

theorem leatref52_Buckets_L6_eq (N : Nat) (hN : 2000 < N) (k : Nat) (n : Int) (hn : I64 n) (o l : List Int) (hx : l[k]? = some n) : iter (W.leatref52_Buckets_L6 N) N (((k : Int), (0, ())), (l, (o, ()))) = some (((k : Int), ((bl n : Int), ())), (l, (o, ()))) := by
  have hb := bl_le hn
  have hlt := (List.getElem?_eq_some_iff.1 hx).1
  refine iter_some (I := fun x => ∃ (i : Nat), x = (((k : Int), ((i : Int), ())), (l, (o, ()))) ∧ i ≤ bl n) (fun x => 64 - x.1.2.1.toNat) _ ?_ N _ ⟨0, rfl, by omega⟩ (by simp only; omega)
  rintro F _ ⟨i, rfl, hi⟩
  by_cases h : i < bl n
  · left
    refine ⟨(((k : Int), (((i + 1 : Nat) : Int), ())), (l, (o, ()))), ⟨i + 1, rfl, by omega⟩, by simp only [Int.toNat_natCast]; omega, ?_⟩
    have hp := (bl_pow (n := n) i).2 h
    simp only [W.leatref52_Buckets_L6]
    have hw : IntKind.wrap .i64 (1 * 2 ^ (min ((IntKind.wrap .u64 (i : Int))).toNat 64)) = (2 : Int) ^ i := by
      rw [wrapU64 (by omega) (by omega), Int.toNat_natCast, show min i 64 = i by omega, Int.one_mul, wrapI64 (by have := pow_pos' i; omega) (by have := hn.2; omega)]
    rw [in_len hlt, hw, getD_at hx, bift hp, decide_eq_true (show (i : Int) < 63 by omega), wrapU64 (by omega) (by omega), decide_eq_false (show ¬ (i : Int) < 0 by omega), wrapI64 (by omega) (by omega)]
    rfl
  · right
    obtain rfl : i = bl n := by omega
    simp only [W.leatref52_Buckets_L6]
    by_cases h63 : bl n = 63
    · rw [decide_eq_false (show ¬ ((bl n : Nat) : Int) < 63 by omega)]
      rfl
    · have hp : ¬ (2 : Int) ^ bl n ≤ n := fun hh => by have := (bl_pow (n := n) (bl n)).1 hh; omega
      have h62 : (2 : Int) ^ bl n ≤ 2 ^ 62 := by exact_mod_cast Nat.pow_le_pow_right (n := 2) (by omega) (show bl n ≤ 62 by omega)
      have hw : IntKind.wrap .i64 (1 * 2 ^ (min ((IntKind.wrap .u64 ((bl n : Nat) : Int))).toNat 64)) = (2 : Int) ^ bl n := by
        rw [wrapU64 (by omega) (by omega), Int.toNat_natCast, show min (bl n) 64 = bl n by omega, Int.one_mul, wrapI64 (by have := pow_pos' (bl n); omega) (by omega)]
      rw [in_len hlt, hw, getD_at hx, biff hp, decide_eq_true (show ((bl n : Nat) : Int) < 63 by omega), wrapU64 (by omega) (by omega), decide_eq_false (show ¬ ((bl n : Nat) : Int) < 0 by omega)]
      rfl

theorem leatref52_Buckets_L8_eq (N : Nat) (hN : 2000 < N) (b : Nat) (hb : b ≤ 63) (m : Int) (o l : List Int) (ho : o.length ≤ 64) :
    iter (W.leatref52_Buckets_L8 N) N ((m, ((b : Int), ())), (l, (o, ()))) = some ((m, ((b : Int), ())), (l, (padTo o b, ()))) := by
  refine iter_some (I := fun x => ∃ o' : List Int, x = ((m, ((b : Int), ())), (l, (o', ()))) ∧ padTo o' b = padTo o b ∧ o'.length ≤ 64) (fun x => b + 1 - x.2.2.1.length) _ ?_ N _ ⟨o, rfl, rfl, ho⟩ (by simp only; omega)
  rintro F _ ⟨o', rfl, hp, hl⟩
  by_cases h : o'.length ≤ b
  · left
    refine ⟨((m, ((b : Int), ())), (l, (o' ++ [0], ()))), ⟨o' ++ [0], rfl, by rw [padTo_step h, hp], by simp; omega⟩, by simp only [List.length_append, List.length_singleton]; omega, ?_⟩
    simp only [W.leatref52_Buckets_L8]
    rw [bift (by omega), bift (by simp only [List.length_singleton]; omega)]
  · right
    simp only [W.leatref52_Buckets_L8]
    rw [biff (by omega), ← hp, padTo_done (by omega)]

theorem leatref52_Buckets_eq (N : Nat) (hN : 2000 < N) (l : List Int) (hl : l.length ≤ 1000) (h : ∀ x ∈ l, I64 x) : W.leatref52_Buckets N l = some (bkA l) := by
  have key := iter_fold (round := W.leatref52_Buckets_L3 N) l (fun k (a : List Int) => (((k : Int), ()), (l, (a, ())))) ((), (bkA l, ())) bkS [] (fun F k x hx => by
    have hlt := (List.getElem?_eq_some_iff.1 hx).1
    have hxI := h x (List.mem_of_getElem? hx)
    have hlen := bkF_length (l.take k) [] (by simp) fun y hy => h y (List.mem_of_mem_take hy)
    have hb := bl_le hxI
    generalize (l.take k).foldl bkS [] = o at hlen
    simp only [W.leatref52_Buckets_L3]
    have hpl := padTo_length o (bl x)
    rw [bift (by omega), leatref52_Buckets_L6_eq N hN k x hxI _ _ hx, Option.bind_some, leatref52_Buckets_L8_eq N hN _ hb _ _ _ hlen, Option.bind_some]
    simp only
    rw [in_len (by omega), cond_true, cond_true, wrapI64 (by omega) (by omega)]
    rfl) (fun F => by
    simp only [W.leatref52_Buckets_L3]
    rw [biff (by omega)]
    rfl) N (by omega)
  simp only [W.leatref52_Buckets]
  rw [show ((0 : Int)) = ((0 : Nat) : Int) from rfl, key, Option.bind_some]

/-! How alike numbers are. -/
def cT (n : Int) : Int := cl n 0 1099511627776
def fs (b : Int) (p : Int × Int) (x : Int) : Int × Int := (IntKind.wrap .i64 (p.1 + x / b), IntKind.wrap .i64 (p.2 + IntKind.wrap .i64 (x / b * (x / b))))
def fh (xs : List Int) : Int := xs.foldl imx 0
def fb (h : Int) : Int := if 1048576 ≤ h then 1048576 else 1
def fairX (xs : List Int) : Int :=
  if (xs.foldl (fs (fb (fh xs))) (0, 0)).2 = 0 then 1048576
  else ratio (IntKind.wrap .i64 ((xs.foldl (fs (fb (fh xs))) (0, 0)).1 * (xs.foldl (fs (fb (fh xs))) (0, 0)).1)) (IntKind.wrap .i64 ((xs.foldl (fs (fb (fh xs))) (0, 0)).2 * ((xs.length : Nat) : Int)))
def fairV (l : List Int) : Int := fairX ((l.take 256).map cT)

theorem fold_pair : ∀ (l : List Int) (h : Int) (acc : List Int), l.foldl (fun (a : Int × List Int) n => (imx a.1 (cT n), a.2 ++ [cT n])) (h, acc) = ((l.map cT).foldl imx h, acc ++ l.map cT)
  | [], h, acc => by simp
  | x :: l, h, acc => by rw [List.foldl_cons, fold_pair l]; simp
theorem cut_to (l : List Int) {m : Nat} {c : Int} (h : c = (m : Int)) : cutL l 0 (imn ((l.length : Nat) : Int) c) = l.take m ∧ 0 ≤ imn ((l.length : Nat) : Int) c ∧ imn ((l.length : Nat) : Int) c ≤ ((l.length : Nat) : Int) := by
  subst h
  refine ⟨?_, by simp only [imn]; split <;> omega, by simp only [imn]; split <;> omega⟩
  simp only [imn, cutL]
  split
  · simp
  · simp only [Int.toNat_natCast, Int.toNat_zero, List.drop_zero]
    rw [List.take_length, List.take_of_length_le (by omega)]

theorem stats_Fair_L4_eq (N : Nat) (hN : 2000 < N) (l : List Int) (hl : l.length ≤ 256) : iter (W.stats_Fair_L4 N) N ((0, (((l.length : Nat) : Int), (0, ()))), (([] : List Int), (l, ()))) = some ((fh (l.map cT), ()), (l.map cT, ())) := by
  have e := fold_pair l 0 []
  have key := iter_fold (round := W.stats_Fair_L4 N) l (fun k (a : Int × List Int) => ((a.1, (((l.length : Nat) : Int), ((k : Int), ()))), (a.2, (l, ())))) ((fh (l.map cT), ()), (l.map cT, ())) (fun a n => (imx a.1 (cT n), a.2 ++ [cT n])) (0, []) (fun F k x hx => by
    have hlt := (List.getElem?_eq_some_iff.1 hx).1
    have ek := fold_pair (l.take k) 0 []
    rw [ek]
    simp only [W.stats_Fair_L4, sat_Clamp_eq, Option.bind_some]
    rw [bift (by omega), in_len hlt, cond_true, getD_at hx, bift (by simp; omega), wrapI64 (by omega) (by omega)]
    rfl) (fun F => by
    rw [e]
    simp only [W.stats_Fair_L4]
    rw [biff (by omega)]
    rfl) N (by omega)
  exact key

theorem fdiv1 (x : Int) : x / 1 = x := Int.ediv_one x
theorem stats_Fair_L12_eq (N : Nat) (hN : 2000 < N) (h : Int) (l : List Int) (hl : l.length ≤ 256) :
    iter (W.stats_Fair_L12 N) N ((h, (0, (0, (((l.length : Nat) : Int), (0, ()))))), (l, ())) = some (((l.foldl (fs (fb h)) (0, 0)).1, ((l.foldl (fs (fb h)) (0, 0)).2, ())), (l, ())) := by
  have key := iter_fold (round := W.stats_Fair_L12 N) l (fun k (a : Int × Int) => ((h, (a.1, (a.2, (((l.length : Nat) : Int), ((k : Int), ()))))), (l, ()))) (((l.foldl (fs (fb h)) (0, 0)).1, ((l.foldl (fs (fb h)) (0, 0)).2, ())), (l, ())) (fs (fb h)) (0, 0) (fun F k x hx => by
    have hlt := (List.getElem?_eq_some_iff.1 hx).1
    generalize (l.take k).foldl (fs (fb h)) (0, 0) = p
    simp only [W.stats_Fair_L12]
    rw [bift (by omega), in_len hlt, cond_true, getD_at hx, wrapI64 (x := (k : Int) + 1) (by omega) (by omega), fdiv_pos (by omega)]
    by_cases hh : 1048576 ≤ h
    · rw [bift hh]
      simp only [fs, fb, if_pos hh]
      rfl
    · rw [biff hh]
      simp only [fs, fb, if_neg hh, fdiv1]
      rfl) (fun F => by
    simp only [W.stats_Fair_L12]
    rw [biff (by omega)]) N (by omega)
  exact key

theorem stats_Fair_eq (N : Nat) (hN : 2000 < N) (l : List Int) : W.stats_Fair N l = some (fairV l) := by
  obtain ⟨h1, h2, h3⟩ := cut_to l (m := 256) (c := 256) rfl
  have hl : (l.take 256).length ≤ 256 := by simp; omega
  have hl2 : ((l.take 256).map cT).length ≤ 256 := by rw [List.length_map]; exact hl
  simp only [W.stats_Fair, h1]
  rw [decide_eq_true h2, decide_eq_true h3, Bool.and_self, cond_true, stats_Fair_L4_eq N hN _ hl, Option.bind_some]
  simp only
  rw [stats_Fair_L12_eq N hN _ _ hl2, Option.bind_some]
  simp only [fairV]
  generalize (l.take 256).map cT = xs
  simp only [fairX]
  by_cases hq : (xs.foldl (fs (fb (fh xs))) (0, 0)).2 = 0
  · rw [if_pos hq, hq]; rfl
  · rw [if_neg hq, beq_eq_false_iff_ne.2 hq, cond_false, fixed_Ratio_eq N (wrapI64_I _) (wrapI64_I _) hN, Option.bind_some]

def rb (b n : Int) : Int := if 1048576 ≤ n then 1048576 else b
theorem fold_rb : ∀ (l : List Int) (h b : Int), b = fb h → l.foldl rb b = fb ((l.map cT).foldl imx h)
  | [], h, b, e => e
  | x :: l, h, b, e => by
    rw [List.foldl_cons, List.map_cons, List.foldl_cons]
    refine fold_rb l _ _ ?_
    subst e
    simp only [rb, fb, imx, cT, cl]
    repeat' split
    all_goals omega
def rs (b : Int) (p : Int × Int × Int) (n : Int) : Int × Int × Int := ((fs b (p.1, p.2.1) (cT n)).1, (fs b (p.1, p.2.1) (cT n)).2, p.2.2 + 1)
theorem fold_rs (b : Int) : ∀ (l : List Int) (p : Int × Int) (m : Int), l.foldl (rs b) (p.1, p.2, m) = (((l.map cT).foldl (fs b) p).1, ((l.map cT).foldl (fs b) p).2, m + (l.length : Int))
  | [], p, m => by simp
  | x :: l, p, m => by
    rw [List.foldl_cons, List.map_cons, List.foldl_cons]
    have := fold_rs b l (fs b p (cT x)) (m + 1)
    rw [show rs b (p.1, p.2, m) x = ((fs b p (cT x)).1, (fs b p (cT x)).2, m + 1) from rfl, this]
    simp
    omega

theorem take_at {l : List Int} {k : Nat} {x : Int} (h : (l.take 256)[k]? = some x) : l[k]? = some x ∧ k < 256 := by
  rw [List.getElem?_take] at h
  split at h
  · exact ⟨h, by assumption⟩
  · cases h
theorem leatref52_Fair_L3_eq (N : Nat) (hN : 2000 < N) (l : List Int) : iter (W.leatref52_Fair_L3 N) N ((1, (0, ())), (l, ())) = some ((fb (fh ((l.take 256).map cT)), ()), (l, ())) := by
  have hf := fold_rb (l.take 256) 0 1 rfl
  have key := iter_fold (round := W.leatref52_Fair_L3 N) (l.take 256) (fun k (a : Int) => ((a, ((k : Int), ())), (l, ()))) ((fb (fh ((l.take 256).map cT)), ()), (l, ())) rb 1 (fun F k x hx => by
    obtain ⟨hx', h256⟩ := take_at hx
    have hlt := (List.getElem?_eq_some_iff.1 hx').1
    generalize ((l.take 256).take k).foldl rb 1 = b
    simp only [W.leatref52_Fair_L3]
    rw [decide_eq_true (show (k : Int) < ((l.length : Nat) : Int) by omega), beq_self_eq_true, cond_true, bift (by omega), Bool.and_true, decide_eq_true (show (0 : Int) ≤ (k : Int) by omega), cond_true, getD_at hx', wrapI64 (by omega) (by omega)]
    simp only [rb]
    by_cases hh : 1048576 ≤ x
    · rw [bift hh, if_pos hh]; rfl
    · rw [biff hh, if_neg hh]; rfl) (fun F => by
    rw [hf]
    simp only [W.leatref52_Fair_L3]
    by_cases h : l.length < 256
    · rw [decide_eq_false (by simp; omega)]; rfl
    · rw [decide_eq_false (show ¬ (((l.take 256).length : Nat) : Int) < 256 by simp; omega)]
      cases (decide ((((l.take 256).length : Nat) : Int) < ((l.length : Nat) : Int)) == true) <;> rfl) N (by simp; omega)
  exact key

theorem cT_in (n : Int) : 0 ≤ cT n ∧ cT n ≤ 1099511627776 := by simp only [cT, cl]; omega
theorem cT_imn (n : Int) : imn (imx n 0) 1099511627776 = cT n := by
  simp only [imn, imx, cT, cl]
  repeat' split
  all_goals omega
theorem fb_pos (h : Int) : 1 ≤ fb h := by simp only [fb]; split <;> omega
theorem leatref52_Fair_L9_eq (N : Nat) (hN : 2000 < N) (h : Int) (l : List Int) :
    iter (W.leatref52_Fair_L9 N) N ((fb h, (0, (0, (0, (0, ()))))), (l, ())) = some (((((l.take 256).map cT).foldl (fs (fb h)) (0, 0)).1, ((((l.take 256).map cT).foldl (fs (fb h)) (0, 0)).2, ((((l.take 256).map cT).length : Int), ()))), ()) := by
  have hf := fold_rs (fb h) (l.take 256) (0, 0) 0
  have hb := fb_pos h
  have key := iter_fold (round := W.leatref52_Fair_L9 N) (l.take 256) (fun k (a : Int × Int × Int) => ((fb h, (a.1, (a.2.1, (a.2.2, ((k : Int), ()))))), (l, ())))
      (((((l.take 256).map cT).foldl (fs (fb h)) (0, 0)).1, ((((l.take 256).map cT).foldl (fs (fb h)) (0, 0)).2, ((((l.take 256).map cT).length : Int), ()))), ()) (rs (fb h)) (0, 0, 0) (fun F k x hx => by
    obtain ⟨hx', h256⟩ := take_at hx
    have hlt := (List.getElem?_eq_some_iff.1 hx').1
    have hk := fold_rs (fb h) ((l.take 256).take k) (0, 0) 0
    rw [hk]
    have hkl : ((l.take 256).take k).length ≤ 256 := by simp; omega
    generalize ((((l.take 256).take k)).map cT).foldl (fs (fb h)) (0, 0) = p
    generalize ((l.take 256).take k).length = q at hkl
    have hc := cT_in x
    have hd0 := Int.ediv_nonneg hc.1 (show 0 ≤ fb h by omega)
    have hd1 := Int.ediv_le_self (fb h) hc.1
    simp only [W.leatref52_Fair_L9]
    rw [decide_eq_true (show (k : Int) < ((l.length : Nat) : Int) by omega), beq_self_eq_true, cond_true, bift (by omega), Bool.and_true, decide_eq_true (show (0 : Int) ≤ (k : Int) by omega), cond_true, getD_at hx', decide_eq_false (show ¬ fb h = 0 by omega), Bool.not_false, cond_true, cT_imn,
      tdiv_nn hc.1, wrapI64 (x := cT x / fb h) (by omega) (by omega), wrapI64 (x := (k : Int) + 1) (by omega) (by omega), wrapI64 (x := 0 + (q : Int) + 1) (by omega) (by omega)]
    rfl) (fun F => by
    rw [hf]
    simp only [W.leatref52_Fair_L9]
    have e : (0 : Int) + ((l.take 256).length : Int) = (((l.take 256).map cT).length : Int) := by simp
    rw [e]
    by_cases h : l.length < 256
    · rw [decide_eq_false (show ¬ (((l.take 256).length : Nat) : Int) < ((l.length : Nat) : Int) by simp; omega)]; rfl
    · rw [decide_eq_false (show ¬ (((l.take 256).length : Nat) : Int) < 256 by simp; omega)]
      cases (decide ((((l.take 256).length : Nat) : Int) < ((l.length : Nat) : Int)) == true) <;> rfl) N (by simp; omega)
  exact key

theorem leatref52_Fair_eq (N : Nat) (hN : 2000 < N) (l : List Int) : W.leatref52_Fair N l = some (fairV l) := by
  simp only [W.leatref52_Fair]
  rw [leatref52_Fair_L3_eq N hN, Option.bind_some]
  simp only
  rw [leatref52_Fair_L9_eq N hN, Option.bind_some]
  simp only [fairV]
  generalize (l.take 256).map cT = xs
  simp only [fairX]
  by_cases hq : (xs.foldl (fs (fb (fh xs))) (0, 0)).2 = 0
  · rw [if_pos hq, hq]; rfl
  · rw [if_neg hq, beq_eq_false_iff_ne.2 hq, cond_false, leatref04_Ratio_eq N (wrapI64_I _) (wrapI64_I _) hN, Option.bind_some]

/-! A bar. -/
def barT (n : Nat) : ByteArray := ⟨(List.replicate n 35).toArray⟩
theorem repeat35 : ∀ n : Nat, Lib.repeatL [35] n = List.replicate n 35
  | 0 => rfl
  | n + 1 => by rw [Lib.repeatL, repeat35 n]; rfl
theorem strings_Repeat_eq (N : Nat) (n : Nat) (hn : n ≤ 1000) : W.strings_Repeat N W.stats_Bar_tab0 (n : Int) = some (barT n) := by
  have e : (W.stats_Bar_tab0).data.toList = [35] := by decide +kernel
  have e2 : (W.stats_Bar_tab0).size = 1 := by decide +kernel
  simp only [W.strings_Repeat, repT]
  rw [if_pos ⟨by omega, by omega, by omega⟩, e, Int.toNat_natCast, repeat35]
  rfl
theorem barT_succ (n : Nat) : barT n ++ W.stats_Bar_tab0 = barT (n + 1) := by
  have e : (W.stats_Bar_tab0).data = #[35] := by decide +kernel
  apply ByteArray.ext
  rw [ByteArray.data_append, e]
  simp only [barT]
  apply Array.ext'
  simp [List.replicate_succ']
theorem leatref52_Bar_L7_eq (N : Nat) (hN : 2000 < N) (m : Nat) (hm : m ≤ 1000) : iter (W.leatref52_Bar_L7 N) N (((m : Int), (ByteArray.empty, (0, ()))), ()) = some ((barT m, ()), ()) := by
  refine iter_some (I := fun x => ∃ k : Nat, x = (((m : Int), (barT k, ((k : Int), ()))), ()) ∧ k ≤ m) (fun x => m - x.1.2.2.1.toNat) _ ?_ N _ ⟨0, rfl, by omega⟩ (by simp only; omega)
  rintro F _ ⟨k, rfl, hk⟩
  by_cases h : k < m
  · left
    refine ⟨(((m : Int), (barT (k + 1), (((k + 1 : Nat) : Int), ()))), ()), ⟨k + 1, rfl, by omega⟩, by simp only [Int.toNat_natCast]; omega, ?_⟩
    have e2 : (W.stats_Bar_tab0).size = 1 := by decide +kernel
    have e3 : (barT k).size = k := by simp [barT, ByteArray.size]
    simp only [W.leatref52_Bar_L7]
    rw [bift (by omega), e2, e3, bift (by omega), barT_succ, wrapI64 (by omega) (by omega)]
    rfl
  · right
    obtain rfl : k = m := by omega
    simp only [W.leatref52_Bar_L7]
    rw [biff (by omega)]

theorem imx_max (a b : Int) : imx a b = max a b := by simp only [imx]; split <;> omega
theorem imn_min (a b : Int) : imn a b = min a b := by simp only [imn]; split <;> omega
theorem Bar_eq (N : Nat) (hN : 2000 < N) (a b c : Int) (ha : I64 a) (hb : I64 b) (hc : I64 c) : ∃ s, W.stats_Bar N a b c = some s ∧ W.leatref52_Bar N a b c = some s := by
  obtain ⟨w, hw⟩ : ∃ w : Nat, (w : Int) = max 0 (min c 100) := ⟨(max 0 (min c 100)).toNat, by omega⟩
  have hw2 : min (max c 0) 100 = (w : Int) := by omega
  have hw3 : w ≤ 100 := by omega
  have h1 := wide_MulDiv_eq N (a := max a 0) (b := (w : Int)) (c := max b 1) ⟨by omega, by omega⟩ ⟨by omega, by omega⟩ ⟨by omega, by omega⟩ hN
  have h2 := leatref02_MulDiv_eq N (a := max a 0) (b := (w : Int)) (c := max b 1) ⟨by omega, by omega⟩ ⟨by omega, by omega⟩ ⟨by omega, by omega⟩ false hN
  have hq : 0 ≤ (mdv (max a 0) (w : Int) (max b 1) false).1 := by
    simp only [mdv]
    have h0 := Int.mul_nonneg (show 0 ≤ max a 0 by omega) (show (0 : Int) ≤ w by omega)
    have h3 := Int.ediv_nonneg h0 (show 0 ≤ max b 1 by omega)
    repeat' split
    all_goals first | omega | (simp only; omega)
  simp only [W.stats_Bar, W.leatref52_Bar, imx_max, imn_min, ← hw, hw2, h1, h2, Option.bind_some]
  generalize mdv (max a 0) (w : Int) (max b 1) false = r at hq
  obtain ⟨q, e⟩ := r
  simp only at hq
  by_cases he : e = 0
  · subst he
    by_cases hlt : (w : Int) < q
    · refine ⟨barT w, ?_, ?_⟩
      · rw [show min q (w : Int) = (w : Int) by omega]
        simp only [beq_self_eq_true, Bool.not_true, cond_false, strings_Repeat_eq N w (by omega), Option.bind_some]
      · simp only [beq_self_eq_true, Bool.not_true, cond_true, bift hlt, leatref52_Bar_L7_eq N hN w (by omega), Option.bind_some]
    · obtain ⟨m, rfl⟩ := Int.eq_ofNat_of_zero_le hq
      refine ⟨barT m, ?_, ?_⟩
      · rw [show min (m : Int) (w : Int) = (m : Int) by omega]
        simp only [beq_self_eq_true, Bool.not_true, cond_false, strings_Repeat_eq N m (by omega), Option.bind_some]
      · simp only [beq_self_eq_true, Bool.not_true, cond_true, biff hlt, leatref52_Bar_L7_eq N hN m (by omega), Option.bind_some]
  · have hne : (e == 0) = false := beq_eq_false_iff_ne.2 he
    refine ⟨barT w, ?_, ?_⟩
    · rw [show min (w : Int) (w : Int) = (w : Int) by omega]
      simp only [hne, Bool.not_false, cond_true, strings_Repeat_eq N w (by omega), Option.bind_some]
    · simp only [hne, Bool.not_false, show ((true == false) = false) from rfl, cond_false, leatref52_Bar_L7_eq N hN w (by omega), Option.bind_some]

theorem StatsShows_L6_eq (N : Nat) (hN : 2000 < N) (a b c : Int) (l r : List Int) (hr : r.length ≤ 1000) : iter (W.leatlaw52_StatsShows_L6 N) N ((c, (((r.length : Nat) : Int), (0, ()))), (l, ((a, (b, ())), (r, (r, ()))))) = some (.inr ((c, ()), (l, ((a, (b, ())), ())))) := by
  have key := iter_fold (round := W.leatlaw52_StatsShows_L6 N) r (fun k (_ : Unit) => ((c, (((r.length : Nat) : Int), ((k : Int), ()))), (l, ((a, (b, ())), (r, (r, ())))))) (.inr ((c, ()), (l, ((a, (b, ())), ())))) (fun _ _ => ()) () (fun F k x hx => by
    have hlt := (List.getElem?_eq_some_iff.1 hx).1
    simp only [W.leatlaw52_StatsShows_L6]
    rw [bift (by omega), in_len hlt, cond_true, cond_true, beq_self_eq_true, Bool.not_true, cond_false, wrapI64 (by omega) (by omega)]
    rfl) (fun F => by
    simp only [W.leatlaw52_StatsShows_L6]
    rw [biff (by omega)]) N (by omega)
  exact key

theorem StatsShows_i (N : Nat) (hN : 2000 < N) (hw : W.leatlaw52_works N = some true) (l : List Int) (hl : ∀ x ∈ l, I64 x) (a b c : Int) (ha : I64 a) (hb : I64 b) (hc : I64 c) : W.leatlaw52_StatsShows N l (a, b) c = some true := by
  obtain ⟨h1, h2, h3⟩ := cut_to l (m := 300) (c := 300) rfl
  have hl3 : (l.take 300).length ≤ 1000 := by simp; omega
  have hI : ∀ x ∈ l.take 300, I64 x := fun x hx => hl x (List.mem_of_mem_take hx)
  have hk := bkF_length (l.take 300) [] (by simp) hI
  obtain ⟨s, s1, s2⟩ := Bar_eq N hN a b c ha hb hc
  simp only [W.leatlaw52_StatsShows, h1]
  rw [decide_eq_true h2, decide_eq_true h3, Bool.and_self, cond_true, stats_Buckets_eq N hN _ hl3 hI, Option.bind_some, leatref52_Buckets_eq N hN _ hl3 hI, Option.bind_some, beq_self_eq_true, Bool.not_true, cond_false,
    StatsShows_L6_eq N hN a b c _ (bkA (l.take 300)) (Nat.le_trans hk (by omega)), Option.bind_some]
  simp only [stats_Fair_eq N hN, leatref52_Fair_eq N hN, s1, s2, hw, Option.bind_some, beq_self_eq_true, cond_true]

theorem StatsShows (x : RT [.row 2 [.int .i64], .agg [.int .i64, .int .i64], .sc (.int .i64)]) (h : RT.wf _ x) : ∃ N, uncR [.row 2 [.int .i64], .agg [.int .i64, .int .i64], .sc (.int .i64)] (W.leatlaw52_StatsShows N) x = some true := by
  obtain ⟨l, t, c⟩ := x
  have h' : (l.length ≤ maxLen ∧ ∀ x, x ∈ l → SK.wf (.int .i64) x) ∧ (SK.wf (.int .i64) t.1 ∧ SK.wf (.int .i64) t.2) ∧ SK.wf (.int .i64) c := h
  have key : ∀ N, uncR [.row 2 [.int .i64], .agg [.int .i64, .int .i64], .sc (.int .i64)] (W.leatlaw52_StatsShows N) (l, t, c) = W.leatlaw52_StatsShows N l t c := fun _ => rfl
  obtain ⟨N, hN, hw⟩ : ∃ N, 2000 < N ∧ W.leatlaw52_works N = some true := ⟨2001, by omega, by kernel_rfl⟩
  exact ⟨N, (key N).trans <| StatsShows_i N hN hw l (fun x hx => i64_range (h'.1.2 x hx)) t.1 t.2 c (i64_range h'.2.1.1) (i64_range h'.2.1.2) (i64_range h'.2.2)⟩

end Go.Proofs.YtdoiofdepmiejaaDoor.Pure
