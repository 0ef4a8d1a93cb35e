/- ChainRuns, as plain Lean: any packets over any hops come to the end as the document says. -/
import Derived.Test.YtgjmfljogaanfaaGreatPRun
import Derived.Test.YtgjmfljogaanfaaGreatPChP
namespace Go.Proofs.YtgjmfljogaanfaaGreat.Pure
open Go.Ev Go.RowKit

/-- A packet's row at the start. -/
def row0 (p : Pk) : PD := (p.1, (p.2.1, (cl p.2.2.1 1 65536, (p.2.2.2.1, (cl p.2.2.2.2 0 67108864, (cl p.2.2.2.2 0 67108864, 0))))))

/-- A packet with its place as its number. -/
def numP (i : Nat) (p : Pk) : Pk := (p.1, ((i : Int), (cl p.2.2.1 1 65536, (p.2.2.2.1, cl p.2.2.2.2 0 67108864))))

def num : Nat → List Pk → List Pk
  | _, [] => []
  | i, p :: l => numP i p :: num (i + 1) l

theorem num_length : ∀ (l : List Pk) (i : Nat), (num i l).length = l.length
  | [], _ => rfl
  | p :: l, i => by simp [num, num_length l (i + 1)]

theorem num_snoc (p : Pk) : ∀ (l : List Pk) (i : Nat), num i (l ++ [p]) = num i l ++ [numP (i + l.length) p]
  | [], i => rfl
  | q :: l, i => by
    simp only [List.cons_append, num, num_snoc p l (i + 1), List.length_cons]
    rw [show i + 1 + l.length = i + (l.length + 1) by omega]

theorem num_take {l : List Pk} {i : Nat} (h : i < l.length) : num 0 (l.take (i + 1)) = num 0 (l.take i) ++ [numP i (l.getD i pk0)] := by
  rw [take_next h, num_snoc, List.length_take]
  rw [show 0 + min i l.length = i by omega]

theorem map_take {l : List Pk} {i : Nat} (h : i < l.length) : (l.take (i + 1)).map row0 = (l.take i).map row0 ++ [row0 (l.getD i pk0)] := by
  rw [take_next h]; simp

theorem set_rep {α : Type} (A : List α) (m : Nat) (d x : α) {i : Nat} (h : A.length = i) : (A ++ List.replicate (m + 1) d).set i x = (A ++ [x]) ++ List.replicate m d := by
  subst h
  rw [List.set_append_right _ _ (Nat.le_refl _), Nat.sub_self, List.replicate_succ, List.set_cons_zero]
  simp

theorem start_loop (N : Nat) (hN : 2000 < N) (hs : List HOP) (l : List Pk) (hl : l.length ≤ 1000) :
    iter (W.chain_Run_L4 N) N (((l.length : Int), ((0 : Int), ())), (hs, ((), (List.replicate l.length pk0, (l, (List.replicate l.length pd0, ())))))) = some ((), (hs, ((), (num 0 l, (l.map row0, ()))))) := by
  refine iter_some (fun x => ∃ i : Nat, i ≤ l.length ∧ x = (((l.length : Int), ((i : Int), ())), (hs, ((), (num 0 (l.take i) ++ List.replicate (l.length - i) pk0, (l, ((l.take i).map row0 ++ List.replicate (l.length - i) pd0, ()))))))) (fun x => l.length - x.1.2.1.toNat) _ ?_ N _ ⟨0, by omega, by simp [num]⟩ (by simp only [Int.toNat_zero]; omega)
  rintro F _ ⟨i, hil, rfl⟩
  by_cases hc : i < l.length
  · left
    have c0 : (i : Int) < (l.length : Int) := by omega
    have e1 : IntKind.wrap .i64 ((i : Int) + 1) = ((i + 1 : Nat) : Int) := wN (by omega) (by omega)
    have L1 : (num 0 (l.take i) ++ List.replicate (l.length - i) pk0).length = l.length := by simp only [List.length_append, num_length, List.length_take, List.length_replicate]; omega
    have L2 : ((l.take i).map row0 ++ List.replicate (l.length - i) pd0).length = l.length := by simp only [List.length_append, List.length_map, List.length_take, List.length_replicate]; omega
    have hj : i < (num 0 (l.take i) ++ List.replicate (l.length - i) pk0).length := by omega
    have em : l.length - i = (l.length - (i + 1)) + 1 := by omega
    have s1 : (num 0 (l.take i) ++ List.replicate (l.length - i) pk0).set i (numP i (l.getD i pk0)) = num 0 (l.take (i + 1)) ++ List.replicate (l.length - (i + 1)) pk0 := by
      rw [em, set_rep _ _ _ _ (by rw [num_length, List.length_take]; omega), num_take hc]
    have s2 : ((l.take i).map row0 ++ List.replicate (l.length - i) pd0).set i (row0 (l.getD i pk0)) = (l.take (i + 1)).map row0 ++ List.replicate (l.length - (i + 1)) pd0 := by
      rw [em, set_rep _ _ _ _ (by rw [List.length_map, List.length_take]; omega), map_take hc]
    refine ⟨_, ⟨i + 1, by omega, rfl⟩, by simp only [Int.toNat_natCast]; omega, ?_⟩
    rw [← s1, ← s2]
    generalize num 0 (l.take i) ++ List.replicate (l.length - i) pk0 = A at L1 hj
    generalize (l.take i).map row0 ++ List.replicate (l.length - i) pd0 = B at L2
    simp only [W.chain_Run_L4, c0, Int.natCast_nonneg, decide_true, Bool.and_true, cond_true, Int.toNat_natCast, e1, sat_Clamp_eq, Option.bind_some, List.length_set, L1, L2, List.set_set, getD_set_eq hj, numP, row0]
  · right
    have c0 : ¬ (i : Int) < (l.length : Int) := by omega
    have : l.length - i = 0 := by omega
    rw [List.take_of_length_le (by omega), this]
    simp only [W.chain_Run_L4, c0, decide_false, cond_false, List.replicate_zero, List.append_nil]

theorem num_mem : ∀ {l : List Pk} {k : Nat} {q : Pk}, q ∈ num k l → ∃ i p, k ≤ i ∧ i < k + l.length ∧ p ∈ l ∧ p = l.getD (i - k) pk0 ∧ q = numP i p
  | [], _, _, h => by simp [num] at h
  | p :: l, k, q, h => by
    simp only [num, List.mem_cons] at h
    rcases h with rfl | h
    · exact ⟨k, p, by omega, by simp, by simp, by simp, rfl⟩
    · obtain ⟨i, r, h1, h2, h3, h4, h5⟩ := num_mem h
      refine ⟨i, r, by omega, by simp only [List.length_cons]; omega, List.mem_cons_of_mem _ h3, ?_, h5⟩
      rw [h4, show i - k = (i - (k + 1)) + 1 by omega, List.getD_cons_succ]

theorem num_cnt (i : Int) : ∀ (l : List Pk) (k : Nat), cnt i (num k l) ≤ 1 ∧ (i < (k : Int) → cnt i (num k l) = 0)
  | [], _ => by simp [num, cnt]
  | p :: l, k => by
    obtain ⟨h1, h2⟩ := num_cnt i l (k + 1)
    simp only [num, cnt]
    by_cases e : (k : Int) = i
    · have : at1 i (numP k p) = 1 := if_pos e
      have := h2 (by omega)
      omega
    · have : at1 i (numP k p) = 0 := if_neg e
      refine ⟨by omega, fun h => ?_⟩
      have := h2 (by omega)
      omega

theorem row0_lo (l : List Pk) (j : Nat) : lo ((l.map row0).getD j pd0) = 0 := by
  by_cases h : j < l.length
  · simp [List.getD_eq_getElem?_getD, h, row0, lo]
  · rw [List.getD_eq_getElem?_getD, List.getElem?_eq_none (by simp; omega)]; rfl

theorem RI0 (l : List Pk) (hl : l.length ≤ 60) : RI l.length (l.map row0) (num 0 l) := by
  refine ⟨by simp, hl, by rw [num_length]; exact hl, fun q hq => ?_, fun i => (num_cnt i l 0).1, fun i _ => row0_lo l _⟩
  obtain ⟨i, p, h1, h2, h3, h4, rfl⟩ := num_mem hq
  exact ⟨⟨by simp only [numP, sq]; omega, by simp only [numP, sq]; omega⟩, clB (by omega), clB (by omega)⟩

/-- Packets over hops. -/
def runs (hs : List HOP) (l : List Pk) : List PD := runR (hs.take 8) 0 (l.map row0) (num 0 l)

theorem cut8 (hs : List HOP) : cutL hs 0 (imn ((hs.length : Nat) : Int) 8) = hs.take 8 := by
  simp only [cutL, imn_eq, Int.toNat_zero, List.drop_zero]
  by_cases h : hs.length ≤ 8
  · rw [List.take_of_length_le (by omega), List.take_of_length_le h]
  · rw [show min ((hs.length : Nat) : Int) 8 = 8 by omega]; rfl

theorem chain_Run_eq (N : Nat) (hN : vast < N) (hs : List HOP) (hD : ∀ h ∈ hs, DOK h.2) (hh : hs.length ≤ 100) (l : List Pk) (hl : l.length ≤ 60) : W.chain_Run N hs l = some (runs hs l) := by
  have hN' := hN
  simp only [vast] at hN'
  have e := start_loop N (by omega) hs l (by omega)
  have c1 : (0 : Int) ≤ imn ((hs.length : Nat) : Int) 8 := by rw [imn_eq]; omega
  have c2 : imn ((hs.length : Nat) : Int) 8 ≤ (hs.length : Int) := by rw [imn_eq]; omega
  have b0 : (l.length : Int) ≤ 140737488355328 := by omega
  have b1 : (l.length : Int) * 56 ≤ 140737488355328 := by omega
  have b2 : (l.length : Int) * 40 ≤ 140737488355328 := by omega
  have e2 := run_loop N hN (hs.take 8) (fun h hm => hD h (List.mem_of_mem_take hm)) (by rw [List.length_take]; omega) (hs.take 8).length N 0 (l.map row0) (num 0 l) (by omega) (by rw [List.length_take]; omega) (RI0 l hl)
  rw [List.drop_zero] at e2
  simp only [W.chain_Run, Int.natCast_nonneg, b0, b1, b2, decide_true, Bool.and_self, cond_true, Int.toNat_natCast]
  rw [e]
  simp only [Option.bind_some, c1, c2, decide_true, Bool.and_self, cond_true, cut8]
  rw [show ((0 : Nat) : Int) = 0 from rfl] at e2
  rw [e2]
  simp only [Option.bind_some, runs]

/- How long a size takes at least. -/
def leastH (size : Int) (h : HOP) : Int := span size (limH h.1).1 + (limH h.1).2.1

def leastR (size : Int) : List HOP → Int
  | [] => 0
  | h :: hs => leastH size h + leastR size hs

theorem leastH_bd (size : Int) (h : HOP) : 1 ≤ leastH size h ∧ leastH size h ≤ 17432577 := by
  have hs := span_bd (n := size) (limH_ok h.1).r
  have hd := (limH_ok h.1).d
  simp only [leastH]; omega

theorem ref_least_loop (N : Nat) (size : Int) (hs : List HOP) (hl : hs.length ≤ 100) : ∀ (m M k : Nat) (a : Int), k + m = min hs.length 8 → m < M → 0 ≤ a ∧ a ≤ 17432577 * k →
    iter (W.leatref50_Least_L3 N) M ((size, (a, ((k : Int), ()))), (hs, ())) = some ((a + leastR size ((hs.take 8).drop k), ()), ())
  | _, 0, _, _, _, hm, _ => absurd hm (Nat.not_lt_zero _)
  | 0, M + 1, k, a, hk, _, ha => by
    rw [List.drop_of_length_le (by rw [List.length_take]; omega)]
    by_cases c0 : (k : Int) < (hs.length : Int)
    · have c1 : ¬ (k : Int) < 8 := by omega
      simp only [iter, W.leatref50_Least_L3, c0, c1, decide_true, beq_self_eq_true, cond_true, decide_false, cond_false, leastR, Int.add_zero]
    · simp only [iter, W.leatref50_Least_L3, c0, bft, decide_false, cond_false, leastR, Int.add_zero]
  | m + 1, M + 1, k, a, hk, hm, ha => by
    have c0 : (k : Int) < (hs.length : Int) := by omega
    have c1 : (k : Int) < 8 := by omega
    have e1 : IntKind.wrap .i64 ((k : Int) + 1) = ((k + 1 : Nat) : Int) := wN (by omega) (by omega)
    have hb := leastH_bd size (hs.getD k hop0)
    have hd := (limH_ok (hs.getD k hop0).1).d
    simp only [leastH] at hb
    have hs0 := span_bd (n := size) (limH_ok (hs.getD k hop0).1).r
    have e2 : IntKind.wrap .i64 (a + span size (limH (hs.getD k hop0).1).1) = a + span size (limH (hs.getD k hop0).1).1 := wrapI64 (by omega) (by omega)
    have e3 : IntKind.wrap .i64 (a + span size (limH (hs.getD k hop0).1).1 + (limH (hs.getD k hop0).1).2.1) = a + leastH size (hs.getD k hop0) := by
      rw [wrapI64 (by omega) (by omega)]; simp only [leastH]; omega
    have ih := ref_least_loop N size hs hl m M (k + 1) (a + leastH size (hs.getD k hop0)) (by omega) (by omega) (by simp only [leastH]; omega)
    have er : ∀ F, W.leatref50_Least_L3 N F ((size, (a, ((k : Int), ()))), (hs, ())) = F ((size, (a + leastH size (hs.getD k hop0), (((k + 1 : Nat) : Int), ()))), (hs, ())) := fun F => by
      simp only [W.leatref50_Least_L3, c0, c1, Int.natCast_nonneg, decide_true, beq_self_eq_true, Bool.and_true, cond_true, Int.toNat_natCast, ref50_Limit_eq, leatref37_Span_eq, Option.bind_some, e1, e2, e3]
    have et : (hs.take 8).getD k hop0 = hs.getD k hop0 := by
      simp only [List.getD_eq_getElem?_getD, List.getElem?_take]
      rw [if_pos (by omega)]
    rw [iter, er, ih, drop_get (show k < (hs.take 8).length by rw [List.length_take]; omega), et, leastR]
    congr 3
    omega

def least (hs : List HOP) (size : Int) : Int := leastR size (hs.take 8)

theorem ref_Least_eq (N : Nat) (hN : 2000 < N) (hs : List HOP) (hl : hs.length ≤ 100) (size : Int) : W.leatref50_Least N hs size = some (least hs size) := by
  have e := ref_least_loop N size hs hl (min hs.length 8) N 0 0 (by omega) (by omega) (by omega)
  rw [List.drop_zero, show ((0 : Nat) : Int) = 0 from rfl] at e
  simp only [W.leatref50_Least, e, Option.bind_some, least, Int.zero_add]

/- Not more than the law's own looks go. -/
def cutH (h : HOP) : HOP := (h.1, cutL h.2 0 (imn ((h.2.length : Nat) : Int) 50))

def fewH (hs : List HOP) : List HOP := (hs.take 10).map cutH

theorem few_loop (N : Nat) (hN : 2000 < N) (hs : List HOP) (l : List Pk) : iter (W.leatlaw50_few_L3 N) N (((0 : Int), ()), (hs, (l, ([], ())))) = some ((), (l, (fewH hs, ()))) := by
  refine iter_some (fun x => ∃ i : Nat, i ≤ min hs.length 10 ∧ x = (((i : Int), ()), (hs, (l, ((hs.take i).map cutH, ()))))) (fun x => min hs.length 10 - x.1.1.toNat) _ ?_ N _ ⟨0, by omega, rfl⟩ (by simp only [Int.toNat_zero]; omega)
  rintro F _ ⟨i, hil, rfl⟩
  by_cases hc : i < min hs.length 10
  · left
    have c0 : (i : Int) < (hs.length : Int) := by omega
    have c1 : (i : Int) < 10 := by omega
    have e1 : IntKind.wrap .i64 ((i : Int) + 1) = ((i + 1 : Nat) : Int) := wN (by omega) (by omega)
    have d1 : (0 : Int) ≤ imn (((hs.getD i hop0).2.length : Nat) : Int) 50 := by rw [imn_eq]; omega
    have d2 : imn (((hs.getD i hop0).2.length : Nat) : Int) 50 ≤ ((hs.getD i hop0).2.length : Int) := by rw [imn_eq]; omega
    have L : ((hs.take i).map cutH).length = i := by rw [List.length_map, List.length_take]; omega
    have b : (i + 1) * 104 ≤ 140737488355328 := by omega
    have en : (hs.take (i + 1)).map cutH = (hs.take i).map cutH ++ [cutH (hs.getD i hop0)] := by
      rw [List.take_succ_eq_append_getElem (show i < hs.length by omega), List.map_append]
      congr 1
      simp [List.getD_eq_getElem?_getD, show i < hs.length by omega]
    refine ⟨_, ⟨i + 1, by omega, rfl⟩, by simp only [Int.toNat_natCast]; omega, ?_⟩
    rw [en]
    generalize (hs.take i).map cutH = A at L
    simp only [W.leatlaw50_few_L3, c0, c1, Int.natCast_nonneg, decide_true, beq_self_eq_true, Bool.and_true, cond_true, Int.toNat_natCast, d1, d2, L, b, e1, cutH]
  · right
    have hi : i = min hs.length 10 := by omega
    have en : (hs.take i).map cutH = fewH hs := by
      unfold fewH
      by_cases h : hs.length ≤ 10
      · rw [List.take_of_length_le h, List.take_of_length_le (by omega)]
      · rw [show i = 10 by omega]
    rw [en]
    by_cases c0 : (i : Int) < (hs.length : Int)
    · have c1 : ¬ (i : Int) < 10 := by omega
      simp only [W.leatlaw50_few_L3, c0, c1, decide_true, beq_self_eq_true, cond_true, decide_false, cond_false]
    · simp only [W.leatlaw50_few_L3, c0, bft, decide_false, cond_false]

abbrev cutP (l : List Pk) : List Pk := cutL l 0 (imn ((l.length : Nat) : Int) 60)

theorem few_eq (N : Nat) (hN : 2000 < N) (hs : List HOP) (l : List Pk) : W.leatlaw50_few N ((), (hs, (l, ()))) = some ((), (fewH hs, (cutP l, ()))) := by
  have e := few_loop N hN hs l
  have c3 : (0 : Int) ≤ imn ((l.length : Nat) : Int) 60 := by rw [imn_eq]; omega
  have c4 : imn ((l.length : Nat) : Int) 60 ≤ (l.length : Int) := by rw [imn_eq]; omega
  simp only [W.leatlaw50_few, e, Option.bind_some, c3, c4, decide_true, Bool.and_self, cond_true]

theorem few_dok {hs : List HOP} (hd : ∀ h ∈ hs, ∀ d ∈ h.2, 0 ≤ d ∧ d ≤ 4294967295) : ∀ h ∈ fewH hs, DOK h.2 := by
  intro h hm
  simp only [fewH, List.mem_map] at hm
  obtain ⟨g, hg, rfl⟩ := hm
  exact cutL_DOK (hd g (List.mem_of_mem_take hg))

theorem few_len (hs : List HOP) : (fewH hs).length ≤ 10 := by
  simp only [fewH, List.length_map, List.length_take]; omega

theorem runR_length : ∀ (hs : List HOP) (k : Int) (rows : List PD) (now : List Pk), (runR hs k rows now).length = rows.length
  | [], _, _, _ => rfl
  | h :: hs, k, rows, now => by rw [runR, runR_length, rowsH, note_length, note_length]

theorem runs_length (hs : List HOP) (l : List Pk) : (runs hs l).length = l.length := by rw [runs, runR_length, List.length_map]

end Go.Proofs.YtgjmfljogaanfaaGreat.Pure
