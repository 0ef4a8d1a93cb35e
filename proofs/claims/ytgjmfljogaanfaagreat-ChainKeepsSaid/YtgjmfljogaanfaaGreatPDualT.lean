/- Two queues: taking out. -/
import Derived.Test.YtgjmfljogaanfaaGreatPDual
namespace Go.Proofs.YtgjmfljogaanfaaGreat.Pure
open Go.Ev Go.RowKit

abbrev DOK (D : List Int) : Prop := D.length ≤ 50 ∧ ∀ d ∈ D, 0 ≤ d ∧ d ≤ 4294967295

def draw (D : List Int) (u : Int) : Int := if D = [] then 4294967295 else D.getD (u % (D.length : Int)).toNat 0

theorem draw_in {D : List Int} (h : DOK D) (u : Int) : 0 ≤ draw D u ∧ draw D u ≤ 4294967295 := by
  unfold draw
  split
  · omega
  · rename_i hD
    have hl : 0 < D.length := List.length_pos_iff.2 hD
    have h1 := Int.emod_nonneg u (show (D.length : Int) ≠ 0 by omega)
    have h2 := Int.emod_lt_of_pos u (show (0 : Int) < D.length by omega)
    have h3 : (u % (D.length : Int)).toNat < D.length := by omega
    rw [List.getD_eq_getElem?_getD, List.getElem?_eq_getElem h3]
    exact h.2 _ (List.getElem_mem h3)

theorem dual_hit (N : Nat) {D : List Int} {s : St} {h : Hid} (share : Int) (R : Rep D s h) (hD : DOK D) (h0 : 0 ≤ s.used) (h1 : s.used ≤ 1000000) : ∃ h', W.dual_Queue_hit N ((share, ()), cS s h D) = some ((decide (draw D s.used < share), ()), cS { s with used := s.used + 1 } h' D) ∧ Rep D { s with used := s.used + 1 } h' := by
  have hd := draw_in hD s.used
  have w1 := wrapI64 (x := s.used + 1) (by omega) (by omega)
  by_cases hE : D = []
  · subst hE
    have e : W.dice_Dice_Next N ((), ((s.used, ()), ((), ((h.dat, ()), (([] : List Int), ()))))) = some ((draw [] s.used, ()), ((s.used + 1, ()), ((), ((h.dat, ()), ([], ()))))) := by
      simp only [W.dice_Dice_Next, w1]; rfl
    refine ⟨h, ?_, ⟨R.r1, R.r2, fun h => absurd rfl h⟩⟩
    simp only [W.dual_Queue_hit, e, Option.bind_some, couple_Hit_eq N share hd]
  · have hl : 0 < D.length := List.length_pos_iff.2 hE
    have hl2 := hD.1
    have ha := R.hat hE
    have e0 : ((D.length : Int) == 0) = false := by simp; omega
    have e2 : ¬ ((D.length : Int) = 0) := by omega
    have g1 := Int.emod_nonneg s.used (show (D.length : Int) ≠ 0 by omega)
    have g2 := Int.emod_lt_of_pos s.used (show (0 : Int) < D.length by omega)
    have w2 : IntKind.wrap .i64 (h.dat + 1) = h.dat + 1 := wrapI64 (by omega) (by omega)
    have w3 : (h.dat + 1).tmod (D.length : Int) = (s.used + 1) % D.length := by
      rw [tmod_nn (by omega), ha, Int.emod_add_emod]
    have e : W.dice_Dice_Next N ((), ((s.used, ()), ((), ((h.dat, ()), (D, ()))))) = some ((draw D s.used, ()), ((s.used + 1, ()), ((), (((s.used + 1) % D.length, ()), (D, ()))))) := by
      simp only [W.dice_Dice_Next, w1, w2, w3, e0, e2, decide_false, Bool.not_false, cond_true, cond_false]
      rw [ha]
      simp only [g1, g2, decide_true, Bool.and_self, cond_true, draw, hE, if_false]
    refine ⟨{ h with dat := (s.used + 1) % D.length }, ?_, ⟨R.r1, R.r2, fun _ => rfl⟩⟩
    simp only [W.dual_Queue_hit, e, Option.bind_some, couple_Hit_eq N share hd]

def mk3 (c : Int) : Int × Bool := if c = 1 ∨ c = 2 ∨ c = 3 then (3, true) else (c, false)

theorem ecn_Mark_eq (N : Nat) (c : Int) : W.ecn_Mark N c = some (mk3 c) := by
  by_cases h1 : c = 1
  · subst h1; rfl
  · by_cases h2 : c = 2
    · subst h2; rfl
    · by_cases h3 : c = 3
      · subst h3; rfl
      · have : ¬ (c = 1 ∨ c = 2 ∨ c = 3) := by omega
        simp only [W.ecn_Mark, mk3, this, if_false, beq_false_of_ne h1, beq_false_of_ne h2, beq_false_of_ne h3, cond_false]

def overP (s : St) : Prop := 0 < s.pi.1 ∧ 4294967296 ≤ cl s.pi.1 0 4294967296 * cl s.l.2.2.2.2.2.1 0 65536

instance (s : St) : Decidable (overP s) := by unfold overP; infer_instance

def mrk (s : St) (d : Int) : Int := max (ramp d s.l.2.2.2.2.2.2.1 s.l.2.2.2.2.2.2.2) (cl (clow s.pi.1 s.l.2.2.2.2.2.1) 0 4294967296)

def judge (D : List Int) (s : St) (k : Int) (p : Pk) (d : Int) : Int × Int × Bool :=
  if k = 2 then
    if draw D s.used < csq s.pi.1 then (s.used + 1, (mk3 p.2.2.2.1).1, !(mk3 p.2.2.2.1).2) else (s.used + 1, p.2.2.2.1, false)
  else if overP s then
    if draw D s.used < csq s.pi.1 then (s.used + 1, p.2.2.2.1, true)
    else if draw D (s.used + 1) < mrk s d then (s.used + 2, 3, false) else (s.used + 2, p.2.2.2.1, false)
  else if draw D s.used < mrk s d then (s.used + 1, 3, false) else (s.used + 1, p.2.2.2.1, false)

theorem judge_used (D : List Int) (s : St) (k : Int) (p : Pk) (d : Int) : s.used + 1 ≤ (judge D s k p d).1 ∧ (judge D s k p d).1 ≤ s.used + 2 := by
  unfold judge
  repeat' split
  all_goals simp only
  all_goals omega

theorem dual_judge (N : Nat) {D : List Int} {s : St} {h : Hid} (k : Int) (p : Pk) (d : Int) (R : Rep D s h) (hD : DOK D) (h0 : 0 ≤ s.used) (h1 : s.used ≤ 900000) (hk : k = 2 ∨ k = 1 ∧ (p.2.2.2.1 = 1 ∨ p.2.2.2.1 = 3)) (hN : 2000 < N) : ∃ h', W.dual_Queue_judge N ((k, (p, (d, ()))), cS s h D) = some (((judge D s k p d).2.1, ((judge D s k p d).2.2, ())), cS { s with used := (judge D s k p d).1 } h' D) ∧ Rep D { s with used := (judge D s k p d).1 } h' := by
  rcases hk with rfl | ⟨rfl, hk⟩
  · obtain ⟨h', e, R'⟩ := dual_hit N (csq s.pi.1) R hD h0 (by omega)
    by_cases hb : draw D s.used < csq s.pi.1
    · refine ⟨h', ?_, by simp only [judge, hb, if_true]; exact R'⟩
      simp only [W.dual_Queue_judge, couple_Classic_eq N _ hN, ecn_Mark_eq, e, Option.bind_some, hb, decide_true, Bool.not_true, cond_true, cond_false, judge, if_true, BEq.rfl]
    · refine ⟨h', ?_, by simp only [judge, hb, if_true, if_false]; exact R'⟩
      simp only [W.dual_Queue_judge, couple_Classic_eq N _ hN, e, Option.bind_some, hb, decide_false, Bool.not_false, cond_true, judge, if_true, if_false, BEq.rfl]
  · have e1 : ((1 : Int) == 2) = false := rfl
    have e2 : ¬ ((1 : Int) = 2) := by omega
    have em : mk3 p.2.2.2.1 = (3, true) := by unfold mk3; rw [if_pos (by omega)]
    by_cases ho : overP s
    · have ho' := ho
      unfold overP at ho'
      obtain ⟨h', e, R'⟩ := dual_hit N (csq s.pi.1) R hD h0 (by omega)
      by_cases hb : draw D s.used < csq s.pi.1
      · refine ⟨h', ?_, by simp only [judge, e2, ho, hb, if_true, if_false]; exact R'⟩
        simp only [W.dual_Queue_judge, couple_Classic_eq N _ hN, couple_Over_eq, ho', and_self, e1, e, Option.bind_some, hb, decide_true, btt, cond_true, cond_false, judge, e2, ho, if_true, if_false]
      · obtain ⟨h2, f, R2⟩ := dual_hit N (mrk s d) R' hD (by simp only; omega) (by simp only; omega)
        have hu : s.used + 1 + 1 = s.used + 2 := by omega
        simp only [mrk, hu] at f R2
        by_cases hc : draw D (s.used + 1) < mrk s d
        · have hc' := hc
          simp only [mrk] at hc'
          refine ⟨h2, ?_, by simp only [judge, e2, ho, hb, hc, if_true, if_false]; exact R2⟩
          simp only [W.dual_Queue_judge, couple_Classic_eq N _ hN, couple_Over_eq, ho', and_self, e1, e, Option.bind_some, hb, decide_true, decide_false, btt, cond_true, cond_false, couple_Low_eq, step_Mark_eq N _ _ _ hN, f, hc', ecn_Mark_eq, em, judge, e2, ho, hc, if_true, if_false]
        · have hc' := hc
          simp only [mrk] at hc'
          refine ⟨h2, ?_, by simp only [judge, e2, ho, hb, hc, if_true, if_false]; exact R2⟩
          simp only [W.dual_Queue_judge, couple_Classic_eq N _ hN, couple_Over_eq, ho', and_self, e1, e, Option.bind_some, hb, decide_true, decide_false, btt, cond_true, cond_false, couple_Low_eq, step_Mark_eq N _ _ _ hN, f, hc', judge, e2, ho, hc, if_true, if_false]
    · have ho' := ho
      unfold overP at ho'
      obtain ⟨h2, f, R2⟩ := dual_hit N (mrk s d) R hD h0 (by omega)
      simp only [mrk] at f
      by_cases hc : draw D s.used < mrk s d
      · have hc' := hc
        simp only [mrk] at hc'
        refine ⟨h2, ?_, by simp only [judge, e2, ho, hc, if_true, if_false]; exact R2⟩
        simp only [W.dual_Queue_judge, couple_Over_eq, ho', e1, Option.bind_some, decide_true, decide_false, bft, cond_true, cond_false, couple_Low_eq, step_Mark_eq N _ _ _ hN, f, hc', ecn_Mark_eq, em, judge, e2, ho, hc, if_true, if_false]
      · have hc' := hc
        simp only [mrk] at hc'
        refine ⟨h2, ?_, by simp only [judge, e2, ho, hc, if_true, if_false]; exact R2⟩
        simp only [W.dual_Queue_judge, couple_Over_eq, ho', e1, Option.bind_some, decide_true, decide_false, bft, cond_true, cond_false, couple_Low_eq, step_Mark_eq N _ _ _ hN, f, hc', judge, e2, ho, hc, if_true, if_false]

end Go.Proofs.YtgjmfljogaanfaaGreat.Pure
