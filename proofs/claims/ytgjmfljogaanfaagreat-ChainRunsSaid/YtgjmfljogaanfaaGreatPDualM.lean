/- Two queues: both loops of taking out. -/
import Derived.Test.YtgjmfljogaanfaaGreatPDualL
namespace Go.Proofs.YtgjmfljogaanfaaGreat.Pure
open Go.Ev Go.RowKit

abbrev V0 := L8 × T9 × T9 × T9 × (Int × Int) × Int × Int × Unit

abbrev rT (s : St) (v : V0) (D : List Int) (p : Pk) (lost : List Pk) : V0 × V0 × (Pk × Unit) × List Pk × List Pk × List Pk × List Int × Unit :=
  (rA s, (v, ((p, ()), (lost, (s.q1, (s.q2, (D, ())))))))

abbrev rU (s : St) (D : List Int) (p : Pk) (lost : List Pk) : V0 × (Pk × Unit) × List Pk × List Pk × List Pk × List Int × Unit :=
  (rA s, ((p, ()), (lost, (s.q1, (s.q2, (D, ()))))))

theorem cutL_tail (q : List Pk) : cutL q 1 ((q.length : Nat) : Int) = q.tail := by
  simp only [cutL, Int.toNat_natCast, List.take_length]
  exact List.drop_one

theorem getD0 (q : List Pk) : q.getD (0 : Int).toNat (0, (0, (0, (0, 0)))) = hd q := getD_hd q

theorem rround1 (N : Nat) {D : List Int} {s : St} {n : Nat} (now : Int) (lost : List Pk) (a1 : L8) (a2 a3 a4 : T9) (a5 : Int × Int) (a6 a7 : Int) (G : Good n s) (hD : DOK D) (hn : n ≤ 100) (hq : s.q1 ≠ []) (hp : pick s.owed (sz s.q1) (sz s.q2) = 1) (hl : lost.length ≤ 1000) :
    (j1 D now s).2.2 = true ∧ (∀ F, W.leatref36_Take_L2 N F ((now, ()), rT s (a1, a2, a3, a4, a5, a6, a7, ()) D z5 lost) = F ((now, ()), rT (gone1 D now s) (a1, a2, a3, a4, a5, a6, a7, ()) D z5 (lost ++ [hd s.q1]))) ∨
    (j1 D now s).2.2 = false ∧ (∀ F, W.leatref36_Take_L2 N F ((now, ()), rT s (a1, a2, a3, a4, a5, a6, a7, ()) D z5 lost) = some (.inl ((true, ()), rU (went1 D now s) D (pk1 D now s) lost))) := by
  have g7 := G.u0; have g8 := G.len
  have hz := sz_in G.sz1
  have hz2 := sz_in G.sz2
  have hlen := List.length_pos_iff.2 hq
  have w0 : IntKind.wrap .i64 ((s.q1.length : Int) + (s.q2.length : Int)) = (s.q1.length : Int) + s.q2.length := wrapI64 (by omega) (by omega)
  have c0 : (0 : Int) < (s.q1.length : Int) + s.q2.length := by omega
  have c10 : ¬ ((1 : Int) = 0) := by omega
  have c1 : (0 : Int) < s.q1.length := by omega
  have c2 : (1 : Int) ≤ s.q1.length := by omega
  have c3 : (s.q1.length : Int) ≤ s.q1.length := by omega
  have hpk : W.leatref35_Pick N s.owed (sz s.q1) (sz s.q2) = some 1 := by rw [← hp]; exact leatref35_Pick_eq N hz hz2
  have eJ := ref_judge N (D := D) (s := out1 s) 1 (hd s.q1) (dl now s.q1) hD (by simp only [out1]; omega) (by simp only [out1]; omega) (.inr rfl)
  have L1 : (lost.length + (0 + 1)) * 40 ≤ 140737488355328 := by omega
  have eS := fun n w hn => leatref35_Serve_eq N (o := s.owed) (k := 1) (n := n) w (.inl rfl) hn
  have eS0 := fun w => eS 0 w (by omega)
  have eS1 := fun w => eS (sz s.q1) w hz
  cases hj : (judge D (out1 s) 1 (hd s.q1) (dl now s.q1)).2.2 with
  | true =>
    left
    refine ⟨hj, fun F => ?_⟩
    have hj' := hj
    simp only [out1, tOut, sz] at hj'
    simp only [out1, tOut, sz, hj'] at eJ
    simp only [sz] at hpk
    simp only [W.leatref36_Take_L2, w0, c0, (ref_first N D s).1, (ref_first N D s).2, (ref_Delay N D s now).1, Option.bind_some, decide_true, cond_true, sz, hpk, c10, decide_false, cond_false, c1, c2, c3, Bool.and_self, getD0, cutL_tail, eJ, eS0, List.length_cons, List.length_nil, L1, gone1, out1, tOut, tLost, j1]
  | false =>
    right
    refine ⟨hj, fun F => ?_⟩
    have hj' := hj
    simp only [out1, tOut, sz] at hj'
    simp only [out1, tOut, sz, hj'] at eJ
    simp only [sz] at hpk eS1
    cases hm : ((j1 D now s).2.1 == (hd s.q1).2.2.2.1) with
    | true =>
      have hm' := hm
      simp only [j1, out1, tOut, sz] at hm'
      simp only [W.leatref36_Take_L2, w0, c0, (ref_first N D s).1, (ref_first N D s).2, (ref_Delay N D s now).1, Option.bind_some, decide_true, cond_true, sz, hpk, c10, decide_false, cond_false, c1, c2, c3, Bool.and_self, getD0, cutL_tail, eJ, eS1, hm', Bool.not_true, went1, pk1, out1, tOut, tWent, j1]
    | false =>
      have hm' := hm
      simp only [j1, out1, tOut, sz] at hm'
      simp only [W.leatref36_Take_L2, w0, c0, (ref_first N D s).1, (ref_first N D s).2, (ref_Delay N D s now).1, Option.bind_some, decide_true, cond_true, sz, hpk, c10, decide_false, cond_false, c1, c2, c3, Bool.and_self, getD0, cutL_tail, eJ, eS1, hm', Bool.not_false, went1, pk1, out1, tOut, tWent, j1]

theorem rround2 (N : Nat) {D : List Int} {s : St} {n : Nat} (now : Int) (lost : List Pk) (a1 : L8) (a2 a3 a4 : T9) (a5 : Int × Int) (a6 a7 : Int) (G : Good n s) (hD : DOK D) (hn : n ≤ 100) (hq : s.q2 ≠ []) (hp : pick s.owed (sz s.q1) (sz s.q2) = 2) (hl : lost.length ≤ 1000) :
    (j2 D now s).2.2 = true ∧ (∀ F, W.leatref36_Take_L2 N F ((now, ()), rT s (a1, a2, a3, a4, a5, a6, a7, ()) D z5 lost) = F ((now, ()), rT (gone2 D now s) (a1, a2, a3, a4, a5, a6, a7, ()) D z5 (lost ++ [hd s.q2]))) ∨
    (j2 D now s).2.2 = false ∧ (∀ F, W.leatref36_Take_L2 N F ((now, ()), rT s (a1, a2, a3, a4, a5, a6, a7, ()) D z5 lost) = some (.inl ((true, ()), rU (went2 D now s) D (pk2 D now s) lost))) := by
  have g7 := G.u0; have g8 := G.len
  have hz := sz_in G.sz1
  have hz2 := sz_in G.sz2
  have hlen := List.length_pos_iff.2 hq
  have w0 : IntKind.wrap .i64 ((s.q1.length : Int) + (s.q2.length : Int)) = (s.q1.length : Int) + s.q2.length := wrapI64 (by omega) (by omega)
  have c0 : (0 : Int) < (s.q1.length : Int) + s.q2.length := by omega
  have c20 : ¬ ((2 : Int) = 0) := by omega
  have c21 : ¬ ((2 : Int) = 1) := by omega
  have c1 : (0 : Int) < s.q2.length := by omega
  have c2 : (1 : Int) ≤ s.q2.length := by omega
  have c3 : (s.q2.length : Int) ≤ s.q2.length := by omega
  have hpk : W.leatref35_Pick N s.owed (sz s.q1) (sz s.q2) = some 2 := by rw [← hp]; exact leatref35_Pick_eq N hz hz2
  have eJ := ref_judge N (D := D) (s := out2 s) 2 (hd s.q2) (dl now s.q2) hD (by simp only [out2]; omega) (by simp only [out2]; omega) (.inl rfl)
  have L1 : (lost.length + (0 + 1)) * 40 ≤ 140737488355328 := by omega
  have eS := fun n w hn => leatref35_Serve_eq N (o := s.owed) (k := 2) (n := n) w (.inr rfl) hn
  have eS0 := fun w => eS 0 w (by omega)
  have eS1 := fun w => eS (sz s.q2) w hz2
  cases hj : (judge D (out2 s) 2 (hd s.q2) (dl now s.q2)).2.2 with
  | true =>
    left
    refine ⟨hj, fun F => ?_⟩
    have hj' := hj
    simp only [out2, tOut, sz] at hj'
    simp only [out2, tOut, sz, hj'] at eJ
    simp only [sz] at hpk
    simp only [W.leatref36_Take_L2, w0, c0, (ref_first N D s).1, (ref_first N D s).2, (ref_Delay N D s now).2, Option.bind_some, decide_true, cond_true, sz, hpk, c20, c21, decide_false, cond_false, c1, c2, c3, Bool.and_self, getD0, cutL_tail, eJ, eS0, List.length_cons, List.length_nil, L1, gone2, out2, tOut, tLost, j2]
  | false =>
    right
    refine ⟨hj, fun F => ?_⟩
    have hj' := hj
    simp only [out2, tOut, sz] at hj'
    simp only [out2, tOut, sz, hj'] at eJ
    simp only [sz] at hpk eS1
    cases hm : ((j2 D now s).2.1 == (hd s.q2).2.2.2.1) with
    | true =>
      have hm' := hm
      simp only [j2, out2, tOut, sz] at hm'
      simp only [W.leatref36_Take_L2, w0, c0, (ref_first N D s).1, (ref_first N D s).2, (ref_Delay N D s now).2, Option.bind_some, decide_true, cond_true, sz, hpk, c20, c21, decide_false, cond_false, c1, c2, c3, Bool.and_self, getD0, cutL_tail, eJ, eS1, hm', Bool.not_true, went2, pk2, out2, tOut, tWent, j2]
    | false =>
      have hm' := hm
      simp only [j2, out2, tOut, sz] at hm'
      simp only [W.leatref36_Take_L2, w0, c0, (ref_first N D s).1, (ref_first N D s).2, (ref_Delay N D s now).2, Option.bind_some, decide_true, cond_true, sz, hpk, c20, c21, decide_false, cond_false, c1, c2, c3, Bool.and_self, getD0, cutL_tail, eJ, eS1, hm', Bool.not_false, went2, pk2, out2, tOut, tWent, j2]

theorem take_empty (D : List Int) (now : Int) (f : Nat) (s : St) (lost : List Pk) (h : s.q1 = [] ∧ s.q2 = []) : take D now f s lost = (s, z5, lost, false) := by
  cases f with
  | zero => rfl
  | succ f => simp only [take, h, and_self, if_true]

theorem dual_empty (N : Nat) {s : St} {n : Nat} (h : Hid) (D : List Int) (now : Int) (lost : List Pk) (G : Good n s) (hn : n ≤ 100) (he : s.q1 = [] ∧ s.q2 = []) : ∀ F, W.dual_Queue_Take_L2 N F ((now, ()), cT s h D z5 lost) = some (.inr ((), cT s h D z5 lost)) := by
  intro F
  have hw := dual_Waits N G hn
  have hlen : ¬ 0 < s.q1.length + s.q2.length := by rw [he.1, he.2]; decide
  simp only [W.dual_Queue_Take_L2, hw, Option.bind_some, hlen, decide_false, cond_false]

theorem ref_empty (N : Nat) {s : St} (a1 : L8) (a2 a3 a4 : T9) (a5 : Int × Int) (a6 a7 : Int) (D : List Int) (now : Int) (lost : List Pk) (he : s.q1 = [] ∧ s.q2 = []) : ∀ F, W.leatref36_Take_L2 N F ((now, ()), rT s (a1, a2, a3, a4, a5, a6, a7, ()) D z5 lost) = some (.inr ((), rT s (a1, a2, a3, a4, a5, a6, a7, ()) D z5 lost)) := by
  intro F
  have c : ¬ (0 : Int) < IntKind.wrap .i64 ((s.q1.length : Int) + (s.q2.length : Int)) := by rw [he.1, he.2]; decide
  simp only [W.leatref36_Take_L2, c, decide_false, cond_false]

theorem ne_cases {s : St} (h : ¬ (s.q1 = [] ∧ s.q2 = [])) : 0 < s.q1.length + s.q2.length := by
  by_cases h1 : s.q1 = []
  · have := List.length_pos_iff.2 fun h2 => h ⟨h1, h2⟩; omega
  · have := List.length_pos_iff.2 h1; omega

theorem dual_loop (N : Nat) (hN : 2000 < N) {D : List Int} (hD : DOK D) (now : Int) {n : Nat} (hn : n ≤ 100) : ∀ (f M : Nat) (s : St) (h : Hid) (lost : List Pk), Rep D s h → Good n s → s.q1.length + s.q2.length ≤ f → f < M → lost.length + f ≤ 1000 →
    ∃ h', iter (W.dual_Queue_Take_L2 N) M ((now, ()), cT s h D z5 lost) = some (bif (take D now f s lost).2.2.2 then .inl ((true, ()), cT (take D now f s lost).1 h' D (take D now f s lost).2.1 (take D now f s lost).2.2.1) else .inr ((), cT (take D now f s lost).1 h' D (take D now f s lost).2.1 (take D now f s lost).2.2.1)) ∧ Rep D (take D now f s lost).1 h' ∧ Good n (take D now f s lost).1 := by
  intro f
  induction f with
  | zero =>
    intro M s h lost R G hf hM hl
    obtain ⟨M, rfl⟩ : ∃ K, M = K + 1 := ⟨M - 1, by omega⟩
    have he : s.q1 = [] ∧ s.q2 = [] := ⟨List.length_eq_zero_iff.1 (by omega), List.length_eq_zero_iff.1 (by omega)⟩
    exact ⟨h, dual_empty N h D now lost G hn he _, R, G⟩
  | succ f ih =>
    intro M s h lost R G hf hM hl
    obtain ⟨M, rfl⟩ : ∃ K, M = K + 1 := ⟨M - 1, by omega⟩
    by_cases he : s.q1 = [] ∧ s.q2 = []
    · rw [take_empty D now _ s lost he]
      exact ⟨h, dual_empty N h D now lost G hn he _, R, G⟩
    · rcases pick_cases G he with ⟨hp, hq⟩ | ⟨hp, hq⟩
      · have ht := List.length_pos_iff.2 hq
        rcases round1 N now lost R G hD hn hq hp (by omega) hN with ⟨h', hj, R', G', e⟩ | ⟨h', hj, R', G', e⟩
        · have et : take D now (f + 1) s lost = take D now f (gone1 D now s) (lost ++ [hd s.q1]) := by simp only [take, he, hp, hj, if_true, if_false, cond_true]
          rw [et]
          obtain ⟨h2, e2, R2, G2⟩ := ih M (gone1 D now s) h' (lost ++ [hd s.q1]) R' G' (by simp only [gone1, out1, List.length_tail]; omega) (by omega) (by simp only [List.length_append, List.length_singleton]; omega)
          exact ⟨h2, (e _).trans e2, R2, G2⟩
        · have et : take D now (f + 1) s lost = (went1 D now s, pk1 D now s, lost, true) := by simp only [take, he, hp, hj, if_true, if_false, cond_false]
          rw [et]
          exact ⟨h', e _, R', G'⟩
      · have ht := List.length_pos_iff.2 hq
        have hp1 : ¬ ((2 : Int) = 1) := by omega
        rcases round2 N now lost R G hD hn hq hp (by omega) hN with ⟨h', hj, R', G', e⟩ | ⟨h', hj, R', G', e⟩
        · have et : take D now (f + 1) s lost = take D now f (gone2 D now s) (lost ++ [hd s.q2]) := by simp only [take, he, hp, hp1, hj, if_false, cond_true]
          rw [et]
          obtain ⟨h2, e2, R2, G2⟩ := ih M (gone2 D now s) h' (lost ++ [hd s.q2]) R' G' (by simp only [gone2, out2, List.length_tail]; omega) (by omega) (by simp only [List.length_append, List.length_singleton]; omega)
          exact ⟨h2, (e _).trans e2, R2, G2⟩
        · have et : take D now (f + 1) s lost = (went2 D now s, pk2 D now s, lost, true) := by simp only [take, he, hp, hp1, hj, if_false, cond_false]
          rw [et]
          exact ⟨h', e _, R', G'⟩

theorem Good_gone1 {D : List Int} {now : Int} {s : St} {n : Nat} (G : Good n s) (hn : n ≤ 100) (hq : s.q1 ≠ []) : Good n (gone1 D now s) := by
  have ju := judge_used D (out1 s) 1 (hd s.q1) (dl now s.q1)
  have g7 := G.u0
  exact Good_out1 G hq hn _ _ _ (by simp only [j1]; simp only [out1] at ju ⊢; omega) rfl rfl

theorem Good_gone2 {D : List Int} {now : Int} {s : St} {n : Nat} (G : Good n s) (hn : n ≤ 100) (hq : s.q2 ≠ []) : Good n (gone2 D now s) := by
  have ju := judge_used D (out2 s) 2 (hd s.q2) (dl now s.q2)
  have g7 := G.u0
  exact Good_out2 G hq hn _ _ _ (by simp only [j2]; simp only [out2] at ju ⊢; omega) rfl rfl

theorem ref_loop (N : Nat) {D : List Int} (hD : DOK D) (now : Int) {n : Nat} (hn : n ≤ 100) (a1 : L8) (a2 a3 a4 : T9) (a5 : Int × Int) (a6 a7 : Int) : ∀ (f M : Nat) (s : St) (lost : List Pk), Good n s → s.q1.length + s.q2.length ≤ f → f < M → lost.length + f ≤ 1000 →
    iter (W.leatref36_Take_L2 N) M ((now, ()), rT s (a1, a2, a3, a4, a5, a6, a7, ()) D z5 lost) = some (bif (take D now f s lost).2.2.2 then .inl ((true, ()), rU (take D now f s lost).1 D (take D now f s lost).2.1 (take D now f s lost).2.2.1) else .inr ((), rT (take D now f s lost).1 (a1, a2, a3, a4, a5, a6, a7, ()) D (take D now f s lost).2.1 (take D now f s lost).2.2.1)) := by
  intro f
  induction f with
  | zero =>
    intro M s lost G hf hM hl
    obtain ⟨M, rfl⟩ : ∃ K, M = K + 1 := ⟨M - 1, by omega⟩
    have he : s.q1 = [] ∧ s.q2 = [] := ⟨List.length_eq_zero_iff.1 (by omega), List.length_eq_zero_iff.1 (by omega)⟩
    exact ref_empty N a1 a2 a3 a4 a5 a6 a7 D now lost he _
  | succ f ih =>
    intro M s lost G hf hM hl
    obtain ⟨M, rfl⟩ : ∃ K, M = K + 1 := ⟨M - 1, by omega⟩
    by_cases he : s.q1 = [] ∧ s.q2 = []
    · rw [take_empty D now _ s lost he]
      exact ref_empty N a1 a2 a3 a4 a5 a6 a7 D now lost he _
    · rcases pick_cases G he with ⟨hp, hq⟩ | ⟨hp, hq⟩
      · have ht := List.length_pos_iff.2 hq
        rcases rround1 N now lost a1 a2 a3 a4 a5 a6 a7 G hD hn hq hp (by omega) with ⟨hj, e⟩ | ⟨hj, e⟩
        · have et : take D now (f + 1) s lost = take D now f (gone1 D now s) (lost ++ [hd s.q1]) := by simp only [take, he, hp, hj, if_true, if_false, cond_true]
          rw [et]
          exact (e _).trans (ih M (gone1 D now s) (lost ++ [hd s.q1]) (Good_gone1 G hn hq) (by simp only [gone1, out1, List.length_tail]; omega) (by omega) (by simp only [List.length_append, List.length_singleton]; omega))
        · have et : take D now (f + 1) s lost = (went1 D now s, pk1 D now s, lost, true) := by simp only [take, he, hp, hj, if_true, if_false, cond_false]
          rw [et]
          exact e _
      · have ht := List.length_pos_iff.2 hq
        have hp1 : ¬ ((2 : Int) = 1) := by omega
        rcases rround2 N now lost a1 a2 a3 a4 a5 a6 a7 G hD hn hq hp (by omega) with ⟨hj, e⟩ | ⟨hj, e⟩
        · have et : take D now (f + 1) s lost = take D now f (gone2 D now s) (lost ++ [hd s.q2]) := by simp only [take, he, hp, hp1, hj, if_false, cond_true]
          rw [et]
          exact (e _).trans (ih M (gone2 D now s) (lost ++ [hd s.q2]) (Good_gone2 G hn hq) (by simp only [gone2, out2, List.length_tail]; omega) (by omega) (by simp only [List.length_append, List.length_singleton]; omega))
        · have et : take D now (f + 1) s lost = (went2 D now s, pk2 D now s, lost, true) := by simp only [take, he, hp, hp1, hj, if_false, cond_false]
          rw [et]
          exact e _

def takeA (D : List Int) (now : Int) (s : St) : St × Pk × List Pk × Bool := take D now (s.q1.length + s.q2.length) s []

theorem take_f (D : List Int) (now : Int) : ∀ (f : Nat) (s : St) (lost : List Pk), (take D now f s lost).2.2.2 = false → (take D now f s lost).2.1 = z5 := by
  intro f
  induction f with
  | zero => intros; rfl
  | succ f ih =>
    intro s lost
    unfold take
    split
    · intro _; rfl
    · split
      · cases (j1 D now s).2.2
        · intro h; simp at h
        · exact ih _ _
      · cases (j2 D now s).2.2
        · intro h; simp at h
        · exact ih _ _

theorem dual_Take (N : Nat) (hN : 2000 < N) {D : List Int} {s : St} {h : Hid} {n : Nat} (hD : DOK D) (now : Int) (hn : n ≤ 100) (R : Rep D s h) (G : Good n s) :
    ∃ h', W.dual_Queue_Take N ((now, ()), cS s h D) = some (((takeA D now s).2.1, ((takeA D now s).2.2.2, ())), (cA (takeA D now s).1, ((h'.f1, (h'.m1, (65536, ()))), ((h'.f2, (h'.m2, (65536, ()))), (((takeA D now s).1.used, ()), ((), ((h'.dat, ()), (h'.r1, (h'.r2, (D, ((takeA D now s).2.2.1, ())))))))))))
      ∧ Rep D (takeA D now s).1 h' ∧ Good n (takeA D now s).1 := by
  have g7 := G.u0; have g8 := G.len
  obtain ⟨h', e, R', G'⟩ := dual_loop N hN hD now hn (s.q1.length + s.q2.length) N s h [] R G (Nat.le_refl _) (by omega) (by simp only [List.length_nil]; omega)
  refine ⟨h', ?_, R', G'⟩
  have ef := take_f D now (s.q1.length + s.q2.length) s []
  simp only [W.dual_Queue_Take, e, Option.bind_some, takeA]
  cases hb : (take D now (s.q1.length + s.q2.length) s []).2.2.2
  · simp only [cond_false, ef hb]
  · simp only [cond_true]

theorem ref_Take (N : Nat) (hN : 2000 < N) {D : List Int} {s : St} {n : Nat} (hD : DOK D) (now : Int) (hn : n ≤ 100) (G : Good n s) :
    W.leatref36_Take N ((rA s, (now, ())), rB s D) = some ((rA (takeA D now s).1, ((takeA D now s).2.1, ((takeA D now s).2.2.2, ()))), ((takeA D now s).1.q1, ((takeA D now s).1.q2, (D, ((takeA D now s).2.2.1, ()))))) := by
  have g7 := G.u0; have g8 := G.len
  have e := fun a1 a2 a3 a4 a5 a6 a7 => ref_loop N hD now hn a1 a2 a3 a4 a5 a6 a7 (s.q1.length + s.q2.length) N s [] G (Nat.le_refl _) (by omega) (by simp only [List.length_nil]; omega)
  have ef := take_f D now (s.q1.length + s.q2.length) s []
  simp only [W.leatref36_Take, e, Option.bind_some, takeA]
  cases hb : (take D now (s.q1.length + s.q2.length) s []).2.2.2
  · simp only [cond_false, ef hb]
  · simp only [cond_true]

end Go.Proofs.YtgjmfljogaanfaaGreat.Pure
