/- DualOrders, as plain Lean: the loop over what is told. -/
import Derived.Test.YteidghhjccohdaaPDualO
namespace Go.Proofs.Yteidghhjccohdaa.Pure
open Go.Ev Go.RowKit

theorem q_j1 (N : Nat) (F) (x : Pk) (went : Bool) (kk : Int) (r0 r1 r2 p : List Pk) (k k' : Int) : W.leatlaw36_queue_L2_j1 N F ((went, (kk, ())), ((), ((x, ()), (r0, (r1, (r2, ())))))) p (hd p).2.1 (hd p).1 (hd p).2.2.2.1 k k' = bif hitR p x went then some (.inl ((k, ()), ())) else F ((went, (k', ())), ((), ((x, ()), (r0, (r1, (r2, ())))))) := by
  cases p with
  | nil => rfl
  | cons a p =>
    have c : (0 : Int) < (((a :: p).length : Nat) : Int) := by simp only [List.length_cons]; omega
    simp only [W.leatlaw36_queue_L2_j1, c, decide_true, BEq.rfl, cond_true, hitR, List.isEmpty_cons, Bool.not_false, Bool.true_and, hd, List.headD_cons]
    cases a.2.1 == x.2.1 <;> cases a.1 == x.1 <;> cases went <;> cases a.2.2.2.1 == x.2.2.2.1 <;> rfl

theorem queue_eq (N : Nat) (hN : 2000 < N) (x : Pk) (went : Bool) (r0 r1 r2 : List Pk) : W.leatlaw36_queue N (((), (x, (went, ()))), (r0, (r1, (r2, ())))) = some (bif hitR r1 x went then 1 else bif hitR r2 x went then 2 else 0) := by
  have c10 : ¬ ((1 : Int) = 0) := by omega
  have c20 : ¬ ((2 : Int) = 0) := by omega
  have c21 : ¬ ((2 : Int) = 1) := by omega
  have c13 : (1 : Int) < 3 := by omega
  have c23 : (2 : Int) < 3 := by omega
  have c33 : ¬ (3 : Int) < 3 := by omega
  have s1 : ∀ F, W.leatlaw36_queue_L2 N F ((went, (1, ())), ((), ((x, ()), (r0, (r1, (r2, ())))))) = bif hitR r1 x went then some (.inl ((1, ()), ())) else F ((went, (2, ())), ((), ((x, ()), (r0, (r1, (r2, ())))))) := by
    intro F
    rw [← q_j1 N F x went 1 r0 r1 r2 r1 1 2]
    simp only [W.leatlaw36_queue_L2, c13, c10, decide_true, decide_false, cond_true, cond_false, getD0]
  have s2 : ∀ F, W.leatlaw36_queue_L2 N F ((went, (2, ())), ((), ((x, ()), (r0, (r1, (r2, ())))))) = bif hitR r2 x went then some (.inl ((2, ()), ())) else F ((went, (3, ())), ((), ((x, ()), (r0, (r1, (r2, ())))))) := by
    intro F
    rw [← q_j1 N F x went 2 r0 r1 r2 r2 2 3]
    simp only [W.leatlaw36_queue_L2, c23, c20, c21, decide_true, decide_false, cond_true, cond_false, getD0]
  have s3 : ∀ F, W.leatlaw36_queue_L2 N F ((went, (3, ())), ((), ((x, ()), (r0, (r1, (r2, ())))))) = some (.inr ((), ())) := by
    intro F
    simp only [W.leatlaw36_queue_L2, c33, decide_false, cond_false]
  have k : iter (W.leatlaw36_queue_L2 N) N ((went, (1, ())), ((), ((x, ()), (r0, (r1, (r2, ())))))) = bif hitR r1 x went then some (.inl ((1, ()), ())) else bif hitR r2 x went then some (.inl ((2, ()), ())) else some (.inr ((), ())) := by
    generalize W.leatlaw36_queue_L2 N = r at s1 s2 s3 ⊢
    obtain ⟨M, rfl⟩ : ∃ M, N = M + 1 + 1 + 1 := ⟨N - 3, by omega⟩
    show r _ _ = _
    rw [s1]
    congr 1
    show r _ _ = _
    rw [s2]
    congr 1
    show r _ _ = _
    rw [s3]
  simp only [W.leatlaw36_queue, k]
  cases hitR r1 x went <;> cases hitR r2 x went <;> rfl

abbrev cI (is : Bool) (A i : Int) (tl : List Pk) (k : Int) (acts : List (Int × Int × Pk)) (s : St) (h : Hid) (r0 r1 r2 : List Pk) (D : List Int) : (Bool × Int × Int × Int × Int × Unit) × (L8 × T9 × T9 × T9 × (Int × Int) × Int × Unit) × Unit × List Pk × List (Int × Int × Pk) × (Int × Int × Int × Unit) × (Int × Int × Int × Unit) × (Int × Unit) × List Pk × List Pk × List Pk × List Pk × List Pk × Unit × (Int × Unit) × List Int × Unit :=
  ((is, (A, (i, (((tl.length : Nat) : Int), (k, ()))))), (cA s, ((), (tl, (acts, ((h.f1, (h.m1, (65536, ()))), ((h.f2, (h.m2, (65536, ()))), ((s.used, ()), (r0, (r1, (r2, (h.r1, (h.r2, ((), ((h.dat, ()), (D, ()))))))))))))))))

abbrev cJ (is : Bool) (A i : Int) (acts : List (Int × Int × Pk)) (s : St) (h : Hid) (r0 r1 r2 : List Pk) (D : List Int) : (Bool × Int × Int × Unit) × (L8 × T9 × T9 × T9 × (Int × Int) × Int × Unit) × Unit × List (Int × Int × Pk) × (Int × Int × Int × Unit) × (Int × Int × Int × Unit) × (Int × Unit) × List Pk × List Pk × List Pk × List Pk × List Pk × Unit × (Int × Unit) × List Int × Unit :=
  ((is, (A, (i, ()))), (cA s, ((), (acts, ((h.f1, (h.m1, (65536, ()))), ((h.f2, (h.m2, (65536, ()))), ((s.used, ()), (r0, (r1, (r2, (h.r1, (h.r2, ((), ((h.dat, ()), (D, ())))))))))))))))

theorem or_end (N : Nat) (F) (is : Bool) (A i : Int) (tl : List Pk) (acts : List (Int × Int × Pk)) (s : St) (h : Hid) (r0 r1 r2 : List Pk) (D : List Int) (k : Int) (hk : k = tl.length) : W.leatlaw36_DualOrders_L20 N F (cI is A i tl k acts s h r0 r1 r2 D) = some (.inr (cJ is A i acts s h r0 r1 r2 D)) := by
  have c : ¬ k < (tl.length : Int) := by omega
  simp only [W.leatlaw36_DualOrders_L20, c, decide_false, cond_false]

theorem or_round1 (N : Nat) (hN : 2000 < N) (F) (is w : Bool) (A i : Int) (tl : List Pk) (acts : List (Int × Int × Pk)) (s : St) (h : Hid) (r0 r1 r2 : List Pk) (D : List Int) (k : Nat) (x : Pk) (hk : k < tl.length) (hl : tl.length ≤ 1000) (hx : tl.getD k z5 = x) (hw : w = (is && decide (k + 1 = tl.length))) (hh : hitR r1 x w = true) (hlg : W.leatref09_Legal N (hd r1).2.2.2.1 x.2.2.2.1 = some true) :
    W.leatlaw36_DualOrders_L20 N F (cI is A i tl k acts s h r0 r1 r2 D) = F (cI is A i tl ((k + 1 : Nat) : Int) acts s h r0 r1.tail r2 D) := by
  have c1 : (k : Int) < (tl.length : Int) := by omega
  have c2 : (0 : Int) ≤ (k : Int) := by omega
  have e10 : ¬ ((1 : Int) = 0) := by omega
  have ew : IntKind.wrap .i64 ((k : Int) + 1) = ((k + 1 : Nat) : Int) := by rw [wrapI64 (by omega) (by omega)]; omega
  have ne : r1 ≠ [] := by intro e; rw [e] at hh; simp [hitR] at hh
  have hp := List.length_pos_iff.2 ne
  have c3 : (0 : Int) < (r1.length : Int) := by omega
  have c4 : (1 : Int) ≤ (r1.length : Int) := by omega
  have c5 : (r1.length : Int) ≤ (r1.length : Int) := Int.le_refl _
  have b1 : ((1 : Int) == 0) = false := rfl
  cases is with
  | true =>
    have ef : ((k : Int) == IntKind.wrap .i64 ((tl.length : Int) - 1)) = w := by
      rw [wrapI64 (by omega) (by omega), hw, Bool.true_and]
      by_cases e : k + 1 = tl.length
      · rw [decide_eq_true e]; simp; omega
      · rw [decide_eq_false e]; simp; omega
    simp only [W.leatlaw36_DualOrders_L20, c1, c2, c3, c4, c5, e10, b1, btt, decide_true, decide_false, Bool.and_self, cond_true, cond_false, Int.toNat_natCast, hx, ef, queue_eq N hN, hh, Option.bind_some, getD0, hlg, Bool.not_true, cutL_tail, ew]
  | false =>
    have ef : w = false := by rw [hw, Bool.false_and]
    subst ef
    simp only [W.leatlaw36_DualOrders_L20, c1, c2, c3, c4, c5, e10, b1, bft, decide_true, decide_false, Bool.and_self, cond_true, cond_false, Int.toNat_natCast, hx, queue_eq N hN, hh, Option.bind_some, getD0, hlg, Bool.not_true, cutL_tail, ew]

theorem or_round2 (N : Nat) (hN : 2000 < N) (F) (is w : Bool) (A i : Int) (tl : List Pk) (acts : List (Int × Int × Pk)) (s : St) (h : Hid) (r0 r1 r2 : List Pk) (D : List Int) (k : Nat) (x : Pk) (hk : k < tl.length) (hl : tl.length ≤ 1000) (hx : tl.getD k z5 = x) (hw : w = (is && decide (k + 1 = tl.length))) (hn : hitR r1 x w = false) (hh : hitR r2 x w = true) (hlg : W.leatref09_Legal N (hd r2).2.2.2.1 x.2.2.2.1 = some true) :
    W.leatlaw36_DualOrders_L20 N F (cI is A i tl k acts s h r0 r1 r2 D) = F (cI is A i tl ((k + 1 : Nat) : Int) acts s h r0 r1 r2.tail D) := by
  have c1 : (k : Int) < (tl.length : Int) := by omega
  have c2 : (0 : Int) ≤ (k : Int) := by omega
  have e20 : ¬ ((2 : Int) = 0) := by omega
  have e21 : ¬ ((2 : Int) = 1) := by omega
  have ew : IntKind.wrap .i64 ((k : Int) + 1) = ((k + 1 : Nat) : Int) := by rw [wrapI64 (by omega) (by omega)]; omega
  have ne : r2 ≠ [] := by intro e; rw [e] at hh; simp [hitR] at hh
  have hp := List.length_pos_iff.2 ne
  have c3 : (0 : Int) < (r2.length : Int) := by omega
  have c4 : (1 : Int) ≤ (r2.length : Int) := by omega
  have c5 : (r2.length : Int) ≤ (r2.length : Int) := Int.le_refl _
  have b1 : ((2 : Int) == 0) = false := rfl
  cases is with
  | true =>
    have ef : ((k : Int) == IntKind.wrap .i64 ((tl.length : Int) - 1)) = w := by
      rw [wrapI64 (by omega) (by omega), hw, Bool.true_and]
      by_cases e : k + 1 = tl.length
      · rw [decide_eq_true e]; simp; omega
      · rw [decide_eq_false e]; simp; omega
    simp only [W.leatlaw36_DualOrders_L20, c1, c2, c3, c4, c5, e20, e21, b1, btt, decide_true, decide_false, Bool.and_self, cond_true, cond_false, Int.toNat_natCast, hx, ef, queue_eq N hN, hn, hh, Option.bind_some, getD0, hlg, Bool.not_true, cutL_tail, ew]
  | false =>
    have ef : w = false := by rw [hw, Bool.false_and]
    subst ef
    simp only [W.leatlaw36_DualOrders_L20, c1, c2, c3, c4, c5, e20, e21, b1, bft, decide_true, decide_false, Bool.and_self, cond_true, cond_false, Int.toNat_natCast, hx, queue_eq N hN, hn, hh, Option.bind_some, getD0, hlg, Bool.not_true, cutL_tail, ew]

def told (D : List Int) (now : Int) (f : Nat) (s : St) (lost : List Pk) : List Pk := bif (take D now f s lost).2.2.2 then (take D now f s lost).2.2.1 ++ [(take D now f s lost).2.1] else (take D now f s lost).2.2.1

theorem take_pre (D : List Int) (now : Int) : ∀ (f : Nat) (s : St) (lost : List Pk), ∃ t, (take D now f s lost).2.2.1 = lost ++ t := by
  intro f
  induction f with
  | zero => intro s lost; exact ⟨[], by simp [take]⟩
  | succ f ih =>
    intro s lost
    unfold take
    split
    · exact ⟨[], by simp⟩
    · split
      · cases (j1 D now s).2.2
        · exact ⟨[], by simp⟩
        · obtain ⟨t, e⟩ := ih (gone1 D now s) (lost ++ [hd s.q1])
          exact ⟨hd s.q1 :: t, by simp only [cond_true, e, List.append_assoc, List.singleton_append]⟩
      · cases (j2 D now s).2.2
        · exact ⟨[], by simp⟩
        · obtain ⟨t, e⟩ := ih (gone2 D now s) (lost ++ [hd s.q2])
          exact ⟨hd s.q2 :: t, by simp only [cond_true, e, List.append_assoc, List.singleton_append]⟩

theorem told_pre (D : List Int) (now : Int) (f : Nat) (s : St) (lost : List Pk) : ∃ t, told D now f s lost = lost ++ t ∧ ((take D now f s lost).2.2.2 = true → t ≠ []) := by
  obtain ⟨t, e⟩ := take_pre D now f s lost
  unfold told
  cases (take D now f s lost).2.2.2
  · exact ⟨t, by simp only [cond_false, e], fun h => by cases h⟩
  · exact ⟨t ++ [(take D now f s lost).2.1], by simp only [cond_true, e, List.append_assoc], fun _ => by simp⟩

theorem getD_mid (a : List Pk) (x : Pk) (t : List Pk) : (a ++ x :: t).getD a.length z5 = x := by simp [List.getD_eq_getElem?_getD]

theorem code_in1 {n : Nat} {ns : Int} {s : St} {r1 r2 : List Pk} (G : Good n s) (O : Ord ns s r1 r2) (hq : s.q1 ≠ []) : (hd r1).2.2.2.1 = (hd s.q1).2.2.2.1 ∧ ((hd s.q1).2.2.2.1 = 1 ∨ (hd s.q1).2.2.2.1 = 3) := by
  obtain ⟨e0, e1, e2, e3, _⟩ := kf_hd O.k1 hq
  exact ⟨e3, G.c1 _ (hd_mem' hq)⟩

theorem code_in2 {ns : Int} {s : St} {r1 r2 : List Pk} (O : Ord ns s r1 r2) (hq : s.q2 ≠ []) : (hd r2).2.2.2.1 = (hd s.q2).2.2.2.1 ∧ ((hd r2).2.2.2.1 = 0 ∨ (hd r2).2.2.2.1 = 2) := by
  obtain ⟨e0, e1, e2, e3, _⟩ := kf_hd O.k2 hq
  exact ⟨e3, O.c2 _ (hd_mem' e0)⟩

theorem loop_take (N : Nat) (hN : 2000 < N) (D : List Int) (now : Int) {n : Nat} (hn : n ≤ 100) (A i : Int) (acts : List (Int × Int × Pk)) (s0 : St) (h : Hid) (r0 tl : List Pk) (is : Bool) (ns : Int) (hl : tl.length ≤ 1000) : ∀ (f M : Nat) (s : St) (lost r1 r2 : List Pk), Good n s → Ord ns s r1 r2 → s.q1.length + s.q2.length ≤ f → told D now f s lost = tl → (take D now f s lost).2.2.2 = is → tl.length < M + lost.length →
    ∃ r1' r2', iter (W.leatlaw36_DualOrders_L20 N) M (cI is A i tl ((lost.length : Nat) : Int) acts s0 h r0 r1 r2 D) = some (.inr (cJ is A i acts s0 h r0 r1' r2' D)) ∧ Ord ns (take D now f s lost).1 r1' r2' := by
  intro f
  induction f with
  | zero =>
    intro M s lost r1 r2 G O hf ht hi hM
    have e : tl = lost := by rw [← ht]; rfl
    obtain ⟨M, rfl⟩ : ∃ K, M = K + 1 := ⟨M - 1, by rw [e] at hM; omega⟩
    exact ⟨r1, r2, or_end N _ is A i tl acts s0 h r0 r1 r2 D _ (by rw [e]), O⟩
  | succ f ih =>
    intro M s lost r1 r2 G O hf ht hi hM
    by_cases he : s.q1 = [] ∧ s.q2 = []
    · have e0 := take_empty D now (f + 1) s lost he
      have e : tl = lost := by rw [← ht]; unfold told; rw [e0]; rfl
      obtain ⟨M, rfl⟩ : ∃ K, M = K + 1 := ⟨M - 1, by rw [e] at hM; omega⟩
      rw [e0]
      exact ⟨r1, r2, or_end N _ is A i tl acts s0 h r0 r1 r2 D _ (by rw [e]), O⟩
    · rcases pick_cases G he with ⟨hp, hq⟩ | ⟨hp, hq⟩
      · have hlen := List.length_pos_iff.2 hq
        obtain ⟨hc1, hc2⟩ := code_in1 G O hq
        cases hj : (j1 D now s).2.2 with
        | true =>
          have et : take D now (f + 1) s lost = take D now f (gone1 D now s) (lost ++ [hd s.q1]) := by simp only [take, he, hp, hj, if_true, if_false, cond_true]
          have et2 : told D now (f + 1) s lost = told D now f (gone1 D now s) (lost ++ [hd s.q1]) := by unfold told; rw [et]
          obtain ⟨t, e1, e2⟩ := told_pre D now f (gone1 D now s) (lost ++ [hd s.q1])
          have htl : tl = lost ++ hd s.q1 :: t := by rw [← ht, et2, e1, List.append_assoc]; rfl
          have hlt : tl.length = lost.length + (t.length + 1) := by rw [htl]; simp
          obtain ⟨M, rfl⟩ : ∃ K, M = K + 1 := ⟨M - 1, by omega⟩
          have hw : false = (is && decide (lost.length + 1 = tl.length)) := by
            cases is with
            | false => rfl
            | true =>
              have := e2 (by rw [← et]; exact hi)
              have := List.length_pos_iff.2 this
              rw [decide_eq_false (by omega)]; rfl
          have r := or_round1 N hN (iter (W.leatlaw36_DualOrders_L20 N) M) is false A i tl acts s0 h r0 r1 r2 D lost.length (hd s.q1) (by omega) hl (by rw [htl]; exact getD_mid _ _ _) hw (hit1 O hq rfl rfl (.inr rfl)) (legal_eq N (by rw [hc1]; omega) (.inl hc1.symm))
          have O' : Ord ns (gone1 D now s) r1.tail r2 := Ord_pop1 O hq rfl rfl
          obtain ⟨r1', r2', ei, Oi⟩ := ih M (gone1 D now s) (lost ++ [hd s.q1]) r1.tail r2 (Good_gone1 G hn hq) O' (by simp only [gone1, out1, List.length_tail]; omega) (by rw [← et2]; exact ht) (by rw [← et]; exact hi) (by simp only [List.length_append, List.length_singleton]; omega)
          refine ⟨r1', r2', ?_, by rw [et]; exact Oi⟩
          refine Eq.trans r ?_
          rw [List.length_append, List.length_singleton] at ei
          exact ei
        | false =>
          have et : take D now (f + 1) s lost = (went1 D now s, pk1 D now s, lost, true) := by simp only [take, he, hp, hj, if_true, if_false, cond_false]
          have htl : tl = lost ++ [pk1 D now s] := by rw [← ht]; unfold told; rw [et]; rfl
          have hlt : tl.length = lost.length + 1 := by rw [htl]; simp
          have his : is = true := by rw [← hi, et]
          subst his
          obtain ⟨M, rfl⟩ : ∃ K, M = K + 1 + 1 := ⟨M - 2, by omega⟩
          have r := or_round1 N hN (iter (W.leatlaw36_DualOrders_L20 N) (M + 1)) true true A i tl acts s0 h r0 r1 r2 D lost.length (pk1 D now s) (by omega) hl (by rw [htl]; exact getD_mid _ _ _) (by rw [decide_eq_true (by omega)]; rfl) (hit1 O hq rfl rfl (.inl rfl)) (legal_eq N (by rw [hc1]; omega) (by
            rw [hc1]
            rcases j1_code D now s with h | h
            · exact .inl h
            · exact .inr ⟨h, by omega⟩))
          refine ⟨r1.tail, r2, ?_, by rw [et]; exact Ord_pop1 O hq rfl rfl⟩
          refine Eq.trans r ?_
          exact or_end N _ true A i tl acts s0 h r0 r1.tail r2 D _ (by omega)
      · have hp1 : ¬ ((2 : Int) = 1) := by omega
        have hlen := List.length_pos_iff.2 hq
        obtain ⟨hc1, hc2⟩ := code_in2 O hq
        cases hj : (j2 D now s).2.2 with
        | true =>
          have et : take D now (f + 1) s lost = take D now f (gone2 D now s) (lost ++ [hd s.q2]) := by simp only [take, he, hp, hp1, hj, if_false, cond_true]
          have et2 : told D now (f + 1) s lost = told D now f (gone2 D now s) (lost ++ [hd s.q2]) := by unfold told; rw [et]
          obtain ⟨t, e1, e2⟩ := told_pre D now f (gone2 D now s) (lost ++ [hd s.q2])
          have htl : tl = lost ++ hd s.q2 :: t := by rw [← ht, et2, e1, List.append_assoc]; rfl
          have hlt : tl.length = lost.length + (t.length + 1) := by rw [htl]; simp
          obtain ⟨M, rfl⟩ : ∃ K, M = K + 1 := ⟨M - 1, by omega⟩
          have hw : false = (is && decide (lost.length + 1 = tl.length)) := by
            cases is with
            | false => rfl
            | true =>
              have := e2 (by rw [← et]; exact hi)
              have := List.length_pos_iff.2 this
              rw [decide_eq_false (by omega)]; rfl
          obtain ⟨k1, k2⟩ := hit2 (x := hd s.q2) (went := false) O hq rfl rfl (.inr rfl)
          have r := or_round2 N hN (iter (W.leatlaw36_DualOrders_L20 N) M) is false A i tl acts s0 h r0 r1 r2 D lost.length (hd s.q2) (by omega) hl (by rw [htl]; exact getD_mid _ _ _) hw k1 k2 (legal_eq N (by omega) (.inl hc1.symm))
          have O' : Ord ns (gone2 D now s) r1 r2.tail := Ord_pop2 O hq rfl rfl
          obtain ⟨r1', r2', ei, Oi⟩ := ih M (gone2 D now s) (lost ++ [hd s.q2]) r1 r2.tail (Good_gone2 G hn hq) O' (by simp only [gone2, out2, List.length_tail]; omega) (by rw [← et2]; exact ht) (by rw [← et]; exact hi) (by simp only [List.length_append, List.length_singleton]; omega)
          refine ⟨r1', r2', ?_, by rw [et]; exact Oi⟩
          refine Eq.trans r ?_
          rw [List.length_append, List.length_singleton] at ei
          exact ei
        | false =>
          have et : take D now (f + 1) s lost = (went2 D now s, pk2 D now s, lost, true) := by simp only [take, he, hp, hp1, hj, if_false, cond_false]
          have htl : tl = lost ++ [pk2 D now s] := by rw [← ht]; unfold told; rw [et]; rfl
          have hlt : tl.length = lost.length + 1 := by rw [htl]; simp
          have his : is = true := by rw [← hi, et]
          subst his
          obtain ⟨M, rfl⟩ : ∃ K, M = K + 1 + 1 := ⟨M - 2, by omega⟩
          obtain ⟨k1, k2⟩ := hit2 (x := pk2 D now s) (went := true) O hq rfl rfl (.inl rfl)
          have r := or_round2 N hN (iter (W.leatlaw36_DualOrders_L20 N) (M + 1)) true true A i tl acts s0 h r0 r1 r2 D lost.length (pk2 D now s) (by omega) hl (by rw [htl]; exact getD_mid _ _ _) (by rw [decide_eq_true (by omega)]; rfl) k1 k2 (legal_eq N (by omega) (by
            rw [hc1]
            rcases j2_code D now s hj with h | ⟨h, hc⟩
            · exact .inl h
            · exact .inr ⟨h, by omega⟩))
          refine ⟨r1, r2.tail, ?_, by rw [et]; exact Ord_pop2 O hq rfl rfl⟩
          refine Eq.trans r ?_
          exact or_end N _ true A i tl acts s0 h r0 r1 r2.tail D _ (by omega)

end Go.Proofs.Yteidghhjccohdaa.Pure
