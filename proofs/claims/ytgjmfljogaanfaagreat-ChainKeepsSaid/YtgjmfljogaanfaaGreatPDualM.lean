/- Two queues: both loops of taking out. -/
import Derived.Test.YtgjmfljogaanfaaGreatPDualL
namespace Go.Proofs.YtgjmfljogaanfaaGreat.Pure
open Go.Ev Go.RowKit

abbrev V0 := L8 × T9 × T9 × T9 × (Int × Int) × Int × Int × Unit

abbrev rT (s : St) (v : V0) (D : List Int) (p : Pk) (lost : List Pk) : V0 × V0 × (Pk × Unit) × List Pk × List Pk × List Pk × List Int × Unit :=
  (rA s, (v, ((p, ()), (lost, (s.q1, (s.q2, (D, ())))))))

abbrev rU (s : St) (D : List Int) (p : Pk) (lost : List Pk) : V0 × (Pk × Unit) × List Pk × List Pk × List Pk × List Int × Unit :=
  (rA s, ((p, ()), (lost, (s.q1, (s.q2, (D, ()))))))

theorem cutL_tail (q : List Pk) : cutL q 1 ((q.length : Nat) : Int) = q.tail := by
  simp only [cutL, Int.toNat_natCast, List.take_length]
  exact List.drop_one

theorem getD0 (q : List Pk) : q.getD (0 : Int).toNat (0, (0, (0, (0, 0)))) = hd q := getD_hd q

theorem take_empty (D : List Int) (now : Int) (f : Nat) (s : St) (lost : List Pk) (h : s.q1 = [] ∧ s.q2 = []) : take D now f s lost = (s, z5, lost, false) := by
  cases f with
  | zero => rfl
  | succ f => simp only [take, h, and_self, if_true]

theorem dual_empty (N : Nat) {s : St} {n : Nat} (h : Hid) (D : List Int) (now : Int) (lost : List Pk) (G : Good n s) (hn : n ≤ 100) (he : s.q1 = [] ∧ s.q2 = []) : ∀ F, W.dual_Queue_Take_L2 N F ((now, ()), cT s h D z5 lost) = some (.inr ((), cT s h D z5 lost)) := by
  intro F
  have hw := dual_Waits N G hn
  have hlen : ¬ 0 < s.q1.length + s.q2.length := by rw [he.1, he.2]; decide
  simp only [W.dual_Queue_Take_L2, hw, Option.bind_some, hlen, decide_false, cond_false]

theorem ne_cases {s : St} (h : ¬ (s.q1 = [] ∧ s.q2 = [])) : 0 < s.q1.length + s.q2.length := by
  by_cases h1 : s.q1 = []
  · have := List.length_pos_iff.2 fun h2 => h ⟨h1, h2⟩; omega
  · have := List.length_pos_iff.2 h1; omega

theorem dual_loop (N : Nat) (hN : 2000 < N) {D : List Int} (hD : DOK D) (now : Int) {n : Nat} (hn : n ≤ 100) : ∀ (f M : Nat) (s : St) (h : Hid) (lost : List Pk), Rep D s h → Good n s → s.q1.length + s.q2.length ≤ f → f < M → lost.length + f ≤ 1000 →
    ∃ h', iter (W.dual_Queue_Take_L2 N) M ((now, ()), cT s h D z5 lost) = some (bif (take D now f s lost).2.2.2 then .inl ((true, ()), cT (take D now f s lost).1 h' D (take D now f s lost).2.1 (take D now f s lost).2.2.1) else .inr ((), cT (take D now f s lost).1 h' D (take D now f s lost).2.1 (take D now f s lost).2.2.1)) ∧ Rep D (take D now f s lost).1 h' ∧ Good n (take D now f s lost).1 := by
  intro f
  induction f with
  | zero =>
    intro M s h lost R G hf hM hl
    obtain ⟨M, rfl⟩ : ∃ K, M = K + 1 := ⟨M - 1, by omega⟩
    have he : s.q1 = [] ∧ s.q2 = [] := ⟨List.length_eq_zero_iff.1 (by omega), List.length_eq_zero_iff.1 (by omega)⟩
    exact ⟨h, dual_empty N h D now lost G hn he _, R, G⟩
  | succ f ih =>
    intro M s h lost R G hf hM hl
    obtain ⟨M, rfl⟩ : ∃ K, M = K + 1 := ⟨M - 1, by omega⟩
    by_cases he : s.q1 = [] ∧ s.q2 = []
    · rw [take_empty D now _ s lost he]
      exact ⟨h, dual_empty N h D now lost G hn he _, R, G⟩
    · rcases pick_cases G he with ⟨hp, hq⟩ | ⟨hp, hq⟩
      · have ht := List.length_pos_iff.2 hq
        rcases round1 N now lost R G hD hn hq hp (by omega) hN with ⟨h', hj, R', G', e⟩ | ⟨h', hj, R', G', e⟩
        · have et : take D now (f + 1) s lost = take D now f (gone1 D now s) (lost ++ [hd s.q1]) := by simp only [take, he, hp, hj, if_true, if_false, cond_true]
          rw [et]
          obtain ⟨h2, e2, R2, G2⟩ := ih M (gone1 D now s) h' (lost ++ [hd s.q1]) R' G' (by simp only [gone1, out1, List.length_tail]; omega) (by omega) (by simp only [List.length_append, List.length_singleton]; omega)
          exact ⟨h2, (e _).trans e2, R2, G2⟩
        · have et : take D now (f + 1) s lost = (went1 D now s, pk1 D now s, lost, true) := by simp only [take, he, hp, hj, if_true, if_false, cond_false]
          rw [et]
          exact ⟨h', e _, R', G'⟩
      · have ht := List.length_pos_iff.2 hq
        have hp1 : ¬ ((2 : Int) = 1) := by omega
        rcases round2 N now lost R G hD hn hq hp (by omega) hN with ⟨h', hj, R', G', e⟩ | ⟨h', hj, R', G', e⟩
        · have et : take D now (f + 1) s lost = take D now f (gone2 D now s) (lost ++ [hd s.q2]) := by simp only [take, he, hp, hp1, hj, if_false, cond_true]
          rw [et]
          obtain ⟨h2, e2, R2, G2⟩ := ih M (gone2 D now s) h' (lost ++ [hd s.q2]) R' G' (by simp only [gone2, out2, List.length_tail]; omega) (by omega) (by simp only [List.length_append, List.length_singleton]; omega)
          exact ⟨h2, (e _).trans e2, R2, G2⟩
        · have et : take D now (f + 1) s lost = (went2 D now s, pk2 D now s, lost, true) := by simp only [take, he, hp, hp1, hj, if_false, cond_false]
          rw [et]
          exact ⟨h', e _, R', G'⟩

theorem Good_gone1 {D : List Int} {now : Int} {s : St} {n : Nat} (G : Good n s) (hn : n ≤ 100) (hq : s.q1 ≠ []) : Good n (gone1 D now s) := by
  have ju := judge_used D (out1 s) 1 (hd s.q1) (dl now s.q1)
  have g7 := G.u0
  exact Good_out1 G hq hn _ _ _ (by simp only [j1]; simp only [out1] at ju ⊢; omega) rfl rfl

theorem Good_gone2 {D : List Int} {now : Int} {s : St} {n : Nat} (G : Good n s) (hn : n ≤ 100) (hq : s.q2 ≠ []) : Good n (gone2 D now s) := by
  have ju := judge_used D (out2 s) 2 (hd s.q2) (dl now s.q2)
  have g7 := G.u0
  exact Good_out2 G hq hn _ _ _ (by simp only [j2]; simp only [out2] at ju ⊢; omega) rfl rfl

def takeA (D : List Int) (now : Int) (s : St) : St × Pk × List Pk × Bool := take D now (s.q1.length + s.q2.length) s []

theorem take_f (D : List Int) (now : Int) : ∀ (f : Nat) (s : St) (lost : List Pk), (take D now f s lost).2.2.2 = false → (take D now f s lost).2.1 = z5 := by
  intro f
  induction f with
  | zero => intros; rfl
  | succ f ih =>
    intro s lost
    unfold take
    split
    · intro _; rfl
    · split
      · cases (j1 D now s).2.2
        · intro h; simp at h
        · exact ih _ _
      · cases (j2 D now s).2.2
        · intro h; simp at h
        · exact ih _ _

theorem dual_Take (N : Nat) (hN : 2000 < N) {D : List Int} {s : St} {h : Hid} {n : Nat} (hD : DOK D) (now : Int) (hn : n ≤ 100) (R : Rep D s h) (G : Good n s) :
    ∃ h', W.dual_Queue_Take N ((now, ()), cS s h D) = some (((takeA D now s).2.1, ((takeA D now s).2.2.2, ())), (cA (takeA D now s).1, ((h'.f1, (h'.m1, (65536, ()))), ((h'.f2, (h'.m2, (65536, ()))), (((takeA D now s).1.used, ()), ((), ((h'.dat, ()), (h'.r1, (h'.r2, (D, ((takeA D now s).2.2.1, ())))))))))))
      ∧ Rep D (takeA D now s).1 h' ∧ Good n (takeA D now s).1 := by
  have g7 := G.u0; have g8 := G.len
  obtain ⟨h', e, R', G'⟩ := dual_loop N hN hD now hn (s.q1.length + s.q2.length) N s h [] R G (Nat.le_refl _) (by omega) (by simp only [List.length_nil]; omega)
  refine ⟨h', ?_, R', G'⟩
  have ef := take_f D now (s.q1.length + s.q2.length) s []
  simp only [W.dual_Queue_Take, e, Option.bind_some, takeA]
  cases hb : (take D now (s.q1.length + s.q2.length) s []).2.2.2
  · simp only [cond_false, ef hb]
  · simp only [cond_true]

end Go.Proofs.YtgjmfljogaanfaaGreat.Pure
