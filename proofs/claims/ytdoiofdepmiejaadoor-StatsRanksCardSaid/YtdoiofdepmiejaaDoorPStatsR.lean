/- What numbers come to rises; buckets count all; what is alike is fair. -/
import Derived.Test.YtdoiofdepmiejaaDoorPStats
namespace Go.Proofs.YtdoiofdepmiejaaDoor.Pure
open Go.Ev Go.RowKit

theorem sorted_eq (N : Nat) (l : List Int) (h0 : 0 < l.length) (h1 : l.length ≤ 4000) : W.stats_sorted_int64 N l = some (isort l) := by
  simp only [W.stats_sorted_int64, W.slices_Clone_int64_int64, W.slices_Sort_int64_int64, sortT]
  rw [if_pos (by omega), Option.bind_some, if_pos ⟨h0, h1⟩, Option.bind_some]

theorem stats_rank_gen (N : Nat) (hN : 2000 < N) (s : List Int) (h0 : 0 < s.length) (h1 : s.length ≤ 4000) (p w : Int) (hp : 1 ≤ p) (hpw : p ≤ w) (hw : w ≤ 9223372036854775807) :
    ∃ k : Nat, W.stats_rank N s p w = some (s.getD k 0) ∧ mdv (s.length : Int) p w true = ((k : Int) + 1, 0) ∧ k < s.length ∧ (k : Int) * w < (s.length : Int) * p ∧ (s.length : Int) * p ≤ ((k : Int) + 1) * w := by
  obtain ⟨n, hn⟩ : ∃ n : Int, n = (s.length : Int) := ⟨_, rfl⟩
  have hm := wide_MulDivUp_eq N (a := n) (b := p) (c := w) ⟨by omega, by omega⟩ ⟨by omega, by omega⟩ ⟨by omega, by omega⟩ hN
  have hcl : cl p 1 w = p := by simp only [cl]; omega
  have hix : imx w 1 = w := by simp only [imx]; split <;> omega
  have hnp : n ≤ n * p := by have := Int.mul_le_mul_of_nonneg_left (c := n) hp (by omega); omega
  have hnw : n * p ≤ n * w := Int.mul_le_mul_of_nonneg_left (c := n) hpw (by omega)
  have hd := Int.emod_add_mul_ediv (n * p) w
  have hr := Int.emod_nonneg (n * p) (show w ≠ 0 by omega)
  have hr2 := Int.emod_lt_of_pos (n * p) (show 0 < w by omega)
  have hq0 : 0 ≤ n * p / w := Int.ediv_nonneg (by omega) (by omega)
  have hqn : n * p / w ≤ n := by
    have := Int.ediv_le_ediv (c := w) (by omega) hnw
    rwa [Int.mul_ediv_cancel n (show w ≠ 0 by omega)] at this
  obtain ⟨m, hm1, hm2, hm3⟩ : ∃ m : Int, mdv n p w true = (m + 1, 0) ∧ m * w < n * p ∧ n * p ≤ (m + 1) * w := by
    simp only [mdv]
    rw [if_neg (by omega)]
    generalize n * p / w = q at *
    generalize n * p % w = r at *
    have e1 : (q - 1) * w = w * q - w := by grind
    have e2 : (q + 1) * w = w * q + w := by grind
    have e3 : q * w = w * q := by grind
    by_cases h : r = 0
    · refine ⟨q - 1, ?_, by omega, by rw [show q - 1 + 1 = q by omega, e3]; omega⟩
      simp only [h, ne_eq, not_true_eq_false, and_false, if_false]
      rw [if_neg (by omega), show q - 1 + 1 = q by omega]
    · refine ⟨q, ?_, by omega, by omega⟩
      simp only [h, ne_eq, not_false_eq_true, and_self, if_true]
      rw [if_neg (by omega)]
  have hm0 : 0 ≤ m := by
    apply Int.le_of_not_gt
    intro h
    have := Int.mul_le_mul_of_nonneg_right (c := w) (show m + 1 ≤ 0 by omega) (by omega)
    omega
  have hmn : m < n := by
    apply Int.lt_of_not_ge
    intro h
    have := Int.mul_le_mul_of_nonneg_right (c := w) h (by omega)
    omega
  obtain ⟨k, rfl⟩ := Int.eq_ofNat_of_zero_le hm0
  subst hn
  refine ⟨k, ?_, hm1, by omega, hm2, hm3⟩
  simp only [W.stats_rank, sat_Clamp_eq, Option.bind_some, hix, hcl]
  rw [hm, hm1, Option.bind_some]
  simp only
  rw [show (k : Int) + 1 - 1 = (k : Int) by omega, wrapI64 (by omega) (by omega), in_len (by omega), cond_true, Int.toNat_natCast]

theorem stats_rank_eq (N : Nat) (hN : 2000 < N) (s : List Int) (h0 : 0 < s.length) (h1 : s.length ≤ 4000) (p w : Int) (hp : 1 ≤ p) (hpw : p ≤ w) (hw : w ≤ 1000) :
    ∃ k : Nat, W.stats_rank N s p w = some (s.getD k 0) ∧ k < s.length ∧ (k : Int) * w < (s.length : Int) * p ∧ (s.length : Int) * p ≤ ((k : Int) + 1) * w := by
  obtain ⟨k, a1, _, a2⟩ := stats_rank_gen N hN s h0 h1 p w hp hpw (by omega)
  exact ⟨k, a1, a2⟩

theorem sorted_at {s : List Int} (h : s.Pairwise (· ≤ ·)) {i j : Nat} (hij : i ≤ j) (hj : j < s.length) : s.getD i 0 ≤ s.getD j 0 := by
  rw [List.getD_eq_getElem?_getD, List.getD_eq_getElem?_getD, List.getElem?_eq_getElem hj, List.getElem?_eq_getElem (show i < s.length by omega)]
  simp only [Option.getD_some]
  rcases Nat.lt_or_ge i j with h1 | h1
  · exact List.pairwise_iff_getElem.1 h i j (by omega) hj h1
  · obtain rfl : i = j := by omega
    exact Int.le_refl _

theorem sat_Sum_some (N : Nat) (l : List Int) (hl : l.length ≤ 1000) (hN : 2000 < N) (h : ∀ x ∈ l, I64 x) : W.sat_Sum N l = some (l.foldl sadd 0) := by
  have hI : ∀ (l : List Int) (a : Int), I64 a → I64 (l.foldl sadd a) := by
    intro l
    induction l with
    | nil => intro a ha; exact ha
    | cons x l ih => intro a _; exact ih _ (sadd_I _ _)
  have key := iter_fold (round := W.sat_Sum_L3 N) l (fun k (a : Int) => ((a, (((l.length : Nat) : Int), ((k : Int), ()))), (l, ()))) ((l.foldl sadd 0, ()), ()) sadd 0 (fun F k x hx => by
    have hlt := (List.getElem?_eq_some_iff.1 hx).1
    have hk := hI (l.take k) 0 ⟨by omega, by omega⟩
    simp only [W.sat_Sum_L3]
    rw [bift (by omega), in_len hlt, cond_true, getD_at hx, sat_Add_eq N hk (h x (List.mem_of_getElem? hx)), Option.bind_some, wrapI64 (by omega) (by omega)]
    rfl) (fun F => by
    simp only [W.sat_Sum_L3]
    rw [biff (by omega)]) N (by omega)
  simp only [W.sat_Sum]
  have key' : iter (W.sat_Sum_L3 N) N ((0, (((l.length : Nat) : Int), (0, ()))), (l, ())) = some ((l.foldl sadd 0, ()), ()) := key
  rw [key', Option.bind_some]

theorem stats_Of_rises (N : Nat) (hN : 2000 < N) (c : List Int) (h1 : c.length ≤ 1000) (hI : ∀ x ∈ c, I64 x) :
    ∃ su le mo ha ni la : Int, W.stats_Of N c = some (((c.length : Nat) : Int), (su, (le, (mo, (ha, (ni, la)))))) ∧ le ≤ ha ∧ ha ≤ ni ∧ ni ≤ la ∧ la ≤ mo := by
  by_cases h0 : c.length = 0
  · refine ⟨0, 0, 0, 0, 0, 0, ?_, by omega, by omega, by omega, by omega⟩
    simp only [W.stats_Of]
    rw [h0]
    rfl
  · have hl := isort_length c
    have hs := isort_sorted c
    obtain ⟨k1, a1, a2, a3, a4⟩ := stats_rank_eq N hN (isort c) (by omega) (by omega) 1 2 (by omega) (by omega) (by omega)
    obtain ⟨k2, b1, b2, b3, b4⟩ := stats_rank_eq N hN (isort c) (by omega) (by omega) 9 10 (by omega) (by omega) (by omega)
    obtain ⟨k3, c1, c2, c3, c4⟩ := stats_rank_eq N hN (isort c) (by omega) (by omega) 99 100 (by omega) (by omega) (by omega)
    refine ⟨c.foldl sadd 0, (isort c).getD 0 0, (isort c).getD (c.length - 1) 0, (isort c).getD k1 0, (isort c).getD k2 0, (isort c).getD k3 0, ?_, sorted_at hs (by omega) (by omega), sorted_at hs (by omega) (by omega), sorted_at hs (by omega) (by omega), sorted_at hs (by omega) (by omega)⟩
    simp only [W.stats_Of]
    rw [beq_eq_false_iff_ne.2 (show ¬ ((c.length : Nat) : Int) = 0 by omega), cond_false, sorted_eq N c (by omega) (by omega), Option.bind_some, sat_Sum_some N c h1 hN hI, Option.bind_some, hl, bift (by omega), wrapI64 (by omega) (by omega),
      show ((c.length : Nat) : Int) - 1 = ((c.length - 1 : Nat) : Int) by omega, in_len (by omega), cond_true, a1, Option.bind_some, b1, Option.bind_some, c1, Option.bind_some]
    simp only [Int.toNat_natCast, Int.toNat_zero]

/-! Buckets count all. -/
theorem getD_le_sum : ∀ {o : List Int} (k : Nat), (∀ x ∈ o, 0 ≤ x) → 0 ≤ o.getD k 0 ∧ o.getD k 0 ≤ o.sum ∧ 0 ≤ o.sum
  | [], k, _ => by simp
  | x :: o, 0, h => by
    have := getD_le_sum (o := o) 0 fun y hy => h y (by simp [hy])
    have := h x (by simp)
    simp only [List.getD_cons_zero, List.sum_cons]
    omega
  | x :: o, k + 1, h => by
    have := getD_le_sum (o := o) k fun y hy => h y (by simp [hy])
    have := h x (by simp)
    simp only [List.getD_cons_succ, List.sum_cons]
    omega
theorem sum_set : ∀ {o : List Int} {k : Nat} (v : Int), k < o.length → (o.set k v).sum = o.sum - o.getD k 0 + v
  | [], k, v, h => by simp at h
  | x :: o, 0, v, _ => by simp only [List.set_cons_zero, List.sum_cons, List.getD_cons_zero]; omega
  | x :: o, k + 1, v, h => by
    have := sum_set (o := o) (k := k) v (by simpa using h)
    simp only [List.set_cons_succ, List.sum_cons, List.getD_cons_succ, this]
    omega
theorem sum_zeros (n : Nat) : (List.replicate n (0 : Int)).sum = 0 := by
  induction n with
  | zero => rfl
  | succ n ih => rw [List.replicate_succ, List.sum_cons, ih]; rfl
theorem padTo_sum (o : List Int) (k : Nat) : (padTo o k).sum = o.sum := by rw [padTo, List.sum_append, sum_zeros]; omega
theorem padTo_nn {o : List Int} (k : Nat) (h : ∀ x ∈ o, 0 ≤ x) : ∀ x ∈ padTo o k, 0 ≤ x := by
  intro x hx
  simp only [padTo, List.mem_append, List.mem_replicate] at hx
  rcases hx with hx | ⟨_, rfl⟩
  · exact h x hx
  · omega
theorem bkS_sum {o : List Int} (n : Int) (h : ∀ x ∈ o, 0 ≤ x) (hs : o.sum ≤ 1000000) : (∀ x ∈ bkS o n, 0 ≤ x) ∧ (bkS o n).sum = o.sum + 1 := by
  have hp := padTo_nn (bl n) h
  have hg := getD_le_sum (bl n) hp
  rw [padTo_sum] at hg
  have hl := padTo_length o (bl n)
  simp only [bkS]
  rw [wrapI64 (by omega) (by omega)]
  refine ⟨fun x hx => ?_, by rw [sum_set _ (by omega), padTo_sum]; omega⟩
  rcases List.mem_or_eq_of_mem_set hx with hx | rfl
  · exact hp x hx
  · omega
theorem bkF_sum : ∀ (l o : List Int), (∀ x ∈ o, 0 ≤ x) → o.sum + l.length ≤ 1000000 → (∀ x ∈ l.foldl bkS o, 0 ≤ x) ∧ (l.foldl bkS o).sum = o.sum + l.length
  | [], o, h, _ => ⟨h, by simp⟩
  | n :: l, o, h, hs => by
    simp only [List.length_cons] at hs
    have h1 := bkS_sum n h (by omega)
    have := bkF_sum l (bkS o n) h1.1 (by omega)
    refine ⟨this.1, ?_⟩
    rw [List.foldl_cons, this.2, h1.2, List.length_cons]
    omega
theorem wsum : ∀ (o : List Int) (s : Int), 0 ≤ s → (∀ x ∈ o, 0 ≤ x) → s + o.sum ≤ 1000000000 → o.foldl (fun a x => IntKind.wrap .i64 (a + x)) s = s + o.sum
  | [], s, _, _, _ => by simp
  | x :: o, s, h0, h, hs => by
    have hx := h x (by simp)
    have ho : ∀ y ∈ o, 0 ≤ y := fun y hy => h y (by simp [hy])
    have hn := (getD_le_sum 0 ho).2.2
    rw [List.sum_cons] at hs ⊢
    rw [List.foldl_cons, wrapI64 (by omega) (by omega), wsum o (s + x) (by omega) ho (by omega)]
    omega
theorem StatsRises_L7_eq (N : Nat) (hN : 2000 < N) (a b : Int) (c o : List Int) (ho : o.length ≤ 1000) :
    iter (W.leatlaw52_StatsRises_L7 N) N ((a, (b, (0, (((o.length : Nat) : Int), (0, ()))))), (c, (o, ()))) = some ((a, (b, (o.foldl (fun a x => IntKind.wrap .i64 (a + x)) 0, ()))), (c, ())) := by
  have key := iter_fold (round := W.leatlaw52_StatsRises_L7 N) o (fun k (s : Int) => ((a, (b, (s, (((o.length : Nat) : Int), ((k : Int), ()))))), (c, (o, ())))) ((a, (b, (o.foldl (fun a x => IntKind.wrap .i64 (a + x)) 0, ()))), (c, ())) (fun a x => IntKind.wrap .i64 (a + x)) 0 (fun F k x hx => by
    have hlt := (List.getElem?_eq_some_iff.1 hx).1
    simp only [W.leatlaw52_StatsRises_L7]
    rw [bift (by omega), in_len hlt, cond_true, getD_at hx, wrapI64 (x := (k : Int) + 1) (by omega) (by omega)]
    rfl) (fun F => by
    simp only [W.leatlaw52_StatsRises_L7]
    rw [biff (by omega)]) N (by omega)
  exact key

/-! Alike numbers. -/
theorem StatsRises_L13_eq (N : Nat) (hN : 2000 < N) (x v all : Int) (hv : IntKind.wrap .i64 ((IntKind.wrap .i64 (Int.tmod x 1000)) + 1) = v) (m : Nat) (hm : m ≤ 100) (c : List Int) :
    iter (W.leatlaw52_StatsRises_L13 N) N ((x, (all, ((m : Int), (0, ())))), (c, (([] : List Int), ()))) = some ((x, (all, ())), (c, (List.replicate m v, ()))) := by
  refine iter_some (I := fun z => ∃ k : Nat, z = ((x, (all, ((m : Int), ((k : Int), ())))), (c, (List.replicate k v, ()))) ∧ k ≤ m) (fun z => m - z.1.2.2.2.1.toNat) _ ?_ N _ ⟨0, rfl, by omega⟩ (by simp only; omega)
  rintro F _ ⟨k, rfl, hk⟩
  by_cases h : k < m
  · left
    refine ⟨((x, (all, ((m : Int), (((k + 1 : Nat) : Int), ())))), (c, (List.replicate (k + 1) v, ()))), ⟨k + 1, rfl, by omega⟩, by simp only [Int.toNat_natCast]; omega, ?_⟩
    simp only [W.leatlaw52_StatsRises_L13, hv]
    rw [bift (by omega), bift (by simp only [List.length_replicate, List.length_singleton]; omega), wrapI64 (by omega) (by omega), ← List.replicate_succ']
    rfl
  · right
    obtain rfl : k = m := by omega
    simp only [W.leatlaw52_StatsRises_L13]
    rw [biff (by omega)]
theorem set_zero (v : Int) (k j : Nat) : (List.replicate k (0 : Int) ++ List.replicate (j + 1) v).set k 0 = List.replicate (k + 1) 0 ++ List.replicate j v := by
  rw [List.set_append_right _ _ (by simp), List.length_replicate, Nat.sub_self, List.replicate_succ, List.set_cons_zero, List.replicate_succ', List.append_assoc]
  rfl
theorem StatsRises_L18_eq (N : Nat) (hN : 2000 < N) (x v all : Int) (m : Nat) (hm : m ≤ 100) (c al : List Int) :
    iter (W.leatlaw52_StatsRises_L18 N) N ((x, (all, ((m : Int), (0, ())))), (c, (al, (List.replicate m v, ())))) = some ((x, (all, ())), (c, (al, (List.replicate m 0, ())))) := by
  refine iter_some (I := fun z => ∃ k : Nat, z = ((x, (all, ((m : Int), ((k : Int), ())))), (c, (al, (List.replicate k 0 ++ List.replicate (m - k) v, ())))) ∧ k ≤ m) (fun z => m - z.1.2.2.2.1.toNat) _ ?_ N _ ⟨0, rfl, by omega⟩ (by simp only; omega)
  rintro F _ ⟨k, rfl, hk⟩
  by_cases h : k < m
  · left
    refine ⟨((x, (all, ((m : Int), (((k + 1 : Nat) : Int), ())))), (c, (al, (List.replicate (k + 1) 0 ++ List.replicate (m - (k + 1)) v, ())))), ⟨k + 1, rfl, by omega⟩, by simp only [Int.toNat_natCast]; omega, ?_⟩
    obtain ⟨j, hj⟩ : ∃ j, m - k = j + 1 := ⟨m - k - 1, by omega⟩
    simp only [W.leatlaw52_StatsRises_L18]
    rw [bift (by omega), in_len (by simp; omega), cond_true, wrapI64 (by omega) (by omega), Int.toNat_natCast, hj, set_zero, show m - (k + 1) = j by omega]
    rfl
  · right
    obtain rfl : k = m := by omega
    simp only [W.leatlaw52_StatsRises_L18]
    rw [biff (by omega), Nat.sub_self, List.replicate_zero, List.append_nil]

theorem fh_rep (v : Int) (hv : 0 ≤ v) : ∀ (m : Nat) (h : Int), 0 ≤ h → h ≤ v → (List.replicate (m + 1) v).foldl imx h = v
  | 0, h, _, h1 => by
    show imx h v = v
    rw [imx_max]; omega
  | m + 1, h, h0, h1 => by
    rw [List.replicate_succ, List.foldl_cons, show imx h v = v by rw [imx_max]; omega]
    exact fh_rep v hv m v hv (Int.le_refl v)
theorem fs_rep (v t : Int) (hv : 0 ≤ v) (ht : v * v = t) (ht0 : 0 ≤ t) (ht1 : t ≤ 1000000000) : ∀ (m : Nat) (p : Int × Int), 0 ≤ p.1 → 0 ≤ p.2 → p.1 + (m : Int) * v ≤ 1000000000 → p.2 + (m : Int) * t ≤ 1000000000 →
    (List.replicate m v).foldl (fs 1) p = (p.1 + (m : Int) * v, p.2 + (m : Int) * t)
  | 0, p, _, _, _, _ => by simp
  | m + 1, p, h1, h2, h3, h4 => by
    have e1 : ((m + 1 : Nat) : Int) * v = (m : Int) * v + v := by rw [Int.natCast_add, Int.add_mul]; simp
    have e2 : ((m + 1 : Nat) : Int) * t = (m : Int) * t + t := by rw [Int.natCast_add, Int.add_mul]; simp
    have m1 := Int.mul_nonneg (show (0 : Int) ≤ m by omega) hv
    have m2 := Int.mul_nonneg (show (0 : Int) ≤ m by omega) ht0
    rw [e1] at h3 ⊢
    rw [e2] at h4 ⊢
    have hf : fs 1 p v = (p.1 + v, p.2 + t) := by
      simp only [fs, fdiv1, ht]
      rw [wrapI64 (x := t) (by omega) (by omega), wrapI64 (by omega) (by omega), wrapI64 (by omega) (by omega)]
    rw [List.replicate_succ, List.foldl_cons, hf, fs_rep v t hv ht ht0 ht1 m _ (by simp only; omega) (by simp only; omega) (by simp only; omega) (by simp only; omega)]
    simp only [Prod.mk.injEq]
    omega

theorem sq_in {v : Int} (h : 1 ≤ v ∧ v ≤ 1000) : 1 ≤ v * v ∧ v * v ≤ 1000000 := by
  have h1 := Int.mul_le_mul_of_nonneg_left (c := v) h.1 (by omega)
  have h2 := Int.mul_le_mul_of_nonneg_left (c := v) h.2 (by omega)
  omega
theorem fair_alike (m : Nat) (hm : 2 ≤ m ∧ m ≤ 30) (v : Int) (hv : 1 ≤ v ∧ v ≤ 1000) : fairV (List.replicate m v) = 1048576 := by
  have hs := sq_in hv
  obtain ⟨t, ht⟩ : ∃ t, v * v = t := ⟨_, rfl⟩
  rw [ht] at hs
  obtain ⟨j, rfl⟩ : ∃ j, m = j + 1 := ⟨m - 1, by omega⟩
  have hc : cT v = v := by simp only [cT, cl]; omega
  have hx : ((List.replicate (j + 1) v).take 256).map cT = List.replicate (j + 1) v := by rw [List.take_of_length_le (by simp; omega), List.map_replicate, hc]
  have hb : fb (fh (List.replicate (j + 1) v)) = 1 := by rw [fh, fh_rep v (by omega) j 0 (by omega) (by omega), fb, if_neg (by omega)]
  have b1 := Int.mul_le_mul_of_nonneg_right (a := ((j + 1 : Nat) : Int)) (b := 30) (c := v) (by omega) (by omega)
  have b2 := Int.mul_le_mul_of_nonneg_right (a := ((j + 1 : Nat) : Int)) (b := 30) (c := t) (by omega) (by omega)
  have b3 := Int.mul_le_mul_of_nonneg_right (a := 2) (b := ((j + 1 : Nat) : Int)) (c := t) (by omega) (by omega)
  have hf := fs_rep v t (by omega) ht (by omega) (by omega) (j + 1) (0, 0) (by simp) (by simp) (by simp only; omega) (by simp only; omega)
  simp only [fairV, hx, fairX, hb, hf]
  obtain ⟨q, hq⟩ : ∃ q, ((j + 1 : Nat) : Int) * t = q := ⟨_, rfl⟩
  have e : (0 + ((j + 1 : Nat) : Int) * v) * (0 + ((j + 1 : Nat) : Int) * v) = q * ((j + 1 : Nat) : Int) := by grind
  rw [hq] at b2 b3
  have b4 := Int.mul_le_mul_of_nonneg_left (c := q) (a := ((j + 1 : Nat) : Int)) (b := 30) (by omega) (by omega)
  have b5 := Int.mul_le_mul_of_nonneg_left (c := q) (a := 1) (b := ((j + 1 : Nat) : Int)) (by omega) (by omega)
  rw [hq, e, if_neg (by omega), List.length_replicate, show (0 : Int) + q = q by omega, wrapI64 (by omega) (by omega), ratio, if_neg (by omega), if_pos (.inr (Int.le_refl _))]
theorem fh_zeros (v : Int) (hv : 0 ≤ v) : ∀ m : Nat, (List.replicate m (0 : Int)).foldl imx v = v
  | 0 => rfl
  | m + 1 => by rw [List.replicate_succ, List.foldl_cons, show imx v 0 = v by rw [imx_max]; omega, fh_zeros v hv m]
theorem fair_one (j : Nat) (hj : 1 ≤ j ∧ j ≤ 30) (v : Int) (hv : 1 ≤ v ∧ v ≤ 1000) : fairV (v :: List.replicate j 0) = 1048576 / ((j + 1 : Nat) : Int) := by
  have hs := sq_in hv
  obtain ⟨t, ht⟩ : ∃ t, v * v = t := ⟨_, rfl⟩
  rw [ht] at hs
  have hc : cT v = v := by simp only [cT, cl]; omega
  have hc0 : cT 0 = 0 := rfl
  have hx : ((v :: List.replicate j 0).take 256).map cT = v :: List.replicate j 0 := by rw [List.take_of_length_le (by simp; omega), List.map_cons, List.map_replicate, hc, hc0]
  have hb : fb (fh (v :: List.replicate j 0)) = 1 := by rw [fh, List.foldl_cons, show imx 0 v = v by rw [imx_max]; omega, fh_zeros v (by omega) j, fb, if_neg (by omega)]
  have h1 : fs 1 (0, 0) v = (v, t) := by
    simp only [fs, fdiv1, ht]
    rw [wrapI64 (x := t) (by omega) (by omega), wrapI64 (by omega) (by omega), wrapI64 (by omega) (by omega), Int.zero_add, Int.zero_add]
  have hf : (v :: List.replicate j 0).foldl (fs 1) (0, 0) = (v, t) := by
    rw [List.foldl_cons, h1, fs_rep 0 0 (by omega) rfl (by omega) (by omega) j (v, t) (by simp only; omega) (by simp only; omega) (by simp only; omega) (by simp only; omega)]
    simp
  have b4 := Int.mul_le_mul_of_nonneg_left (c := t) (a := ((j + 1 : Nat) : Int)) (b := 31) (by omega) (by omega)
  have b5 := Int.mul_le_mul_of_nonneg_left (c := t) (a := 2) (b := ((j + 1 : Nat) : Int)) (by omega) (by omega)
  simp only [fairV, hx, fairX, hb, hf, ht, List.length_cons, List.length_replicate]
  rw [if_neg (by omega), wrapI64 (x := t) (by omega) (by omega), wrapI64 (by omega) (by omega), ratio, if_neg (by omega), if_neg (by omega), Int.mul_ediv_mul_of_pos _ _ (by omega)]

theorem lt_false {a b : Int} (h : b ≤ a) : ((decide (a < b)) == false) = true := by rw [decide_eq_false (by omega)]; rfl
theorem StatsRises_i (N : Nat) (hN : 2000 < N) (hw : W.leatlaw52_works N = some true) (l : List Int) (hl : ∀ x ∈ l, I64 x) (x a : Int) (hx : 0 ≤ x ∧ x ≤ 4294967295) (ha : 0 ≤ a ∧ a ≤ 255) : W.leatlaw52_StatsRises N l x a = some true := by
  obtain ⟨h1, h2, h3⟩ := cut_to l (m := 100) (c := 100) rfl
  have hl3 : (l.take 100).length ≤ 100 := by simp; omega
  have hI : ∀ x ∈ l.take 100, I64 x := fun x hx => hl x (List.mem_of_mem_take hx)
  obtain ⟨su, le, mo, hf, ni, la, o1, o2, o3, o4, o5⟩ := stats_Of_rises N hN (l.take 100) (by omega) hI
  have hk := bkF_length (l.take 100) [] (by simp) hI
  have hsum := bkF_sum (l.take 100) [] (by simp) (by simp; omega)
  have hsum2 := wsum (bkA (l.take 100)) 0 (by omega) hsum.1 (by rw [show (bkA (l.take 100)).sum = _ from hsum.2]; simp; omega)
  rw [show (bkA (l.take 100)).sum = _ from hsum.2, show ([] : List Int).sum = 0 from rfl, Int.zero_add, Int.zero_add] at hsum2
  obtain ⟨v, hv⟩ : ∃ v : Int, v = x % 1000 + 1 := ⟨_, rfl⟩
  have hv2 : IntKind.wrap .i64 ((IntKind.wrap .i64 (Int.tmod x 1000)) + 1) = v := by
    rw [tmod_nn hx.1, wrapI64 (x := x % 1000) (by omega) (by omega), wrapI64 (by omega) (by omega), hv]
  obtain ⟨j, hj⟩ : ∃ j : Nat, ((j + 1 : Nat) : Int) = a % 20 + 2 := ⟨(a % 20 + 1).toNat, by omega⟩
  have hm : IntKind.wrap .i64 ((IntKind.wrap .i64 (Int.tmod a 20)) + 2) = ((j + 1 : Nat) : Int) := by
    rw [tmod_nn ha.1, wrapI64 (x := a % 20) (by omega) (by omega), wrapI64 (by omega) (by omega), hj]
  have hset : (List.replicate (j + 1) (0 : Int)).set 0 v = v :: List.replicate j 0 := by rw [List.replicate_succ, List.set_cons_zero]
  have hdiv : IntKind.wrap .i64 (Int.tdiv 1048576 ((j + 1 : Nat) : Int)) = 1048576 / ((j + 1 : Nat) : Int) := by
    have d0 := Int.ediv_nonneg (show (0 : Int) ≤ 1048576 by omega) (show (0 : Int) ≤ ((j + 1 : Nat) : Int) by omega)
    have d1 := Int.ediv_le_self ((j + 1 : Nat) : Int) (show (0 : Int) ≤ 1048576 by omega)
    rw [tdiv_nn (by omega), wrapI64 (by omega) (by omega)]
  simp only [W.leatlaw52_StatsRises, h1]
  rw [decide_eq_true h2, decide_eq_true h3, Bool.and_self, cond_true, o1, Option.bind_some]
  simp only
  rw [lt_false o2, cond_true, lt_false o3, cond_true, lt_false o4, cond_true, lt_false o5, cond_true, beq_self_eq_true, Bool.not_true, cond_false, stats_Buckets_eq N hN _ (by omega) hI, Option.bind_some,
    StatsRises_L7_eq N hN x a _ (bkA (l.take 100)) (Nat.le_trans hk (by omega)), Option.bind_some]
  simp only
  rw [hm, hsum2, StatsRises_L13_eq N hN x v _ hv2 (j + 1) (by omega), Option.bind_some]
  simp only [List.nil_append, List.length_nil, Nat.zero_add]
  rw [bift (by rw [List.length_replicate]; omega), show (((List.replicate (j + 1) v).length : Nat) : Int) = ((j + 1 : Nat) : Int) by rw [List.length_replicate], StatsRises_L18_eq N hN x v _ (j + 1) (by omega), Option.bind_some]
  simp only [hv2, Int.toNat_zero, hset]
  rw [bift (by rw [List.length_replicate]; omega), beq_self_eq_true, beq_self_eq_true, cond_true, stats_Fair_eq N hN, Option.bind_some, fair_alike (j + 1) ⟨by omega, by omega⟩ v ⟨by omega, by omega⟩, beq_self_eq_true, beq_self_eq_true, cond_true,
    stats_Fair_eq N hN, Option.bind_some, fair_one j ⟨by omega, by omega⟩ v ⟨by omega, by omega⟩, show (((v :: List.replicate j (0 : Int)).length : Nat) : Int) = ((j + 1 : Nat) : Int) by simp, decide_eq_false (show ¬ ((j + 1 : Nat) : Int) = 0 by omega), hdiv, beq_self_eq_true, beq_self_eq_true, Bool.not_false, cond_true, cond_true, hw]
  rfl

theorem StatsRises (x : RT [.row 2 [.int .i64], .sc (.int .u32), .sc (.int .u8)]) (h : RT.wf _ x) : ∃ N, uncR [.row 2 [.int .i64], .sc (.int .u32), .sc (.int .u8)] (W.leatlaw52_StatsRises N) x = some true := by
  obtain ⟨l, t, c⟩ := x
  have h' : (l.length ≤ maxLen ∧ ∀ x, x ∈ l → SK.wf (.int .i64) x) ∧ SK.wf (.int .u32) t ∧ SK.wf (.int .u8) c := h
  have key : ∀ N, uncR [.row 2 [.int .i64], .sc (.int .u32), .sc (.int .u8)] (W.leatlaw52_StatsRises N) (l, t, c) = W.leatlaw52_StatsRises N l t c := fun _ => rfl
  obtain ⟨N, hN, hw⟩ : ∃ N, 2000 < N ∧ W.leatlaw52_works N = some true := ⟨2001, by omega, by kernel_rfl⟩
  have ht : 0 ≤ t ∧ t ≤ 4294967295 := by
    have h1 := h'.2.1
    simp only [SK.wf, IntKind.min, IntKind.max, IntKind.signed, IntKind.bits] at h1
    simp at h1
    omega
  have hc : 0 ≤ c ∧ c ≤ 255 := by
    have h1 := h'.2.2
    simp only [SK.wf, IntKind.min, IntKind.max, IntKind.signed, IntKind.bits] at h1
    simp at h1
    omega
  exact ⟨N, (key N).trans <| StatsRises_i N hN hw l (fun x hx => i64_range (h'.1.2 x hx)) t c ht hc⟩

end Go.Proofs.YtdoiofdepmiejaaDoor.Pure
