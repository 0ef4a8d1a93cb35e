/- DualPlays, as plain Lean: act by act both are what the document says. -/
import Derived.Test.YtgjmfljogaanfaaGreatPDualM
import Derived.KernelRfl
namespace Go.Proofs.YtgjmfljogaanfaaGreat.Pure
open Go.Ev Go.RowKit

theorem mul_bd {a b : Int} (ha : 0 ≤ a ∧ a ≤ 17179869184) (hb : -67108864 ≤ b ∧ b ≤ 67108864) : -1152921504606846976 ≤ a * b ∧ a * b ≤ 1152921504606846976 := by
  have h1 := Int.mul_le_mul_of_nonneg_left hb.2 ha.1
  have h2 := Int.mul_le_mul_of_nonneg_left hb.1 ha.1
  omega

theorem dtmod_sign {a b : Int} (hb : 0 < b) : (a.tmod b < 0 ↔ a.tmod b ≠ 0 ∧ a < 0) := by
  by_cases h : 0 ≤ a
  · rw [tmod_nn h]; have := Int.emod_nonneg a (show b ≠ 0 by omega); omega
  · have := Int.tmod_nonneg b (show 0 ≤ -a by omega)
    rw [Int.neg_tmod] at this; omega

theorem dsat_Div_eq (N : Nat) {a b : Int} (ha : I64 a) (hb : 0 < b) : W.sat_Div N a b = some (a / b) := by
  have hq := tdiv_I ha hb
  have hd := ediv_I ha hb
  have hs := dtmod_sign (a := a) hb
  rw [← floor_div hb] at hd ⊢
  simp only [W.sat_Div]
  rw [beq_false_of_ne (show b ≠ 0 by omega), beq_false_of_ne (show b ≠ -1 by omega), wrapI64 hq.1 hq.2, decide_eq_false (show ¬ b = 0 by omega), decide_eq_false (show ¬ b < 0 by omega)]
  have key : (bif (!(a.tmod b == 0)) == true then bif !(decide (a < 0) == false) then some (IntKind.wrap .i64 (a.tdiv b - 1)) else some (a.tdiv b) else some (a.tdiv b)) = some (if a.tmod b ≠ 0 ∧ a.tmod b < 0 then a.tdiv b - 1 else a.tdiv b) := by
    by_cases h1 : a.tmod b = 0
    · rw [h1]; simp
    · rw [beq_false_of_ne h1]
      by_cases h2 : a < 0
      · have h3 := hs.2 ⟨h1, h2⟩
        rw [if_pos ⟨h1, h3⟩] at hd ⊢
        rw [decide_eq_true h2, wrapI64 hd.1 hd.2]
        rfl
      · rw [if_neg (fun h => h2 (hs.1 h.2).2), decide_eq_false h2]
        rfl
  simp only [Bool.not_false, cond_true, cond_false, key]
  cases (a == -9223372036854775808) == true <;> rfl

def piBy (p : Int × Int) (q : Int) (l : L8) : Int :=
  cl l.2.2.2.1 0 17179869184 * (cl q 0 67108864 - cl l.2.1 0 67108864) + cl l.2.2.2.2.1 0 17179869184 * (cl q 0 67108864 - cl p.2 0 67108864)

def piStep (p : Int × Int) (q : Int) (l : L8) : Int × Int := (cl (cl p.1 0 4294967296 + piBy p q l / 1000000) 0 4294967296, cl q 0 67108864)

theorem pi_facts (p : Int × Int) (q : Int) (l : L8) : IntKind.wrap .i64 (cl q 0 67108864 - cl l.2.1 0 67108864) = cl q 0 67108864 - cl l.2.1 0 67108864 ∧ IntKind.wrap .i64 (cl q 0 67108864 - cl p.2 0 67108864) = cl q 0 67108864 - cl p.2 0 67108864 ∧
    IntKind.wrap .i64 (IntKind.wrap .i64 (cl l.2.2.2.1 0 17179869184 * (cl q 0 67108864 - cl l.2.1 0 67108864)) + IntKind.wrap .i64 (cl l.2.2.2.2.1 0 17179869184 * (cl q 0 67108864 - cl p.2 0 67108864))) = piBy p q l ∧ I64 (piBy p q l) ∧ IntKind.wrap .i64 (cl p.1 0 4294967296 + piBy p q l / 1000000) = cl p.1 0 4294967296 + piBy p q l / 1000000 := by
  have h1 := cl_in (a := q) (show (0 : Int) ≤ 67108864 by omega)
  have h2 := cl_in (a := l.2.1) (show (0 : Int) ≤ 67108864 by omega)
  have h3 := cl_in (a := p.2) (show (0 : Int) ≤ 67108864 by omega)
  have h4 := cl_in (a := l.2.2.2.1) (show (0 : Int) ≤ 17179869184 by omega)
  have h5 := cl_in (a := l.2.2.2.2.1) (show (0 : Int) ≤ 17179869184 by omega)
  have h6 := cl_in (a := p.1) (show (0 : Int) ≤ 4294967296 by omega)
  have m1 := mul_bd h4 (b := cl q 0 67108864 - cl l.2.1 0 67108864) (by omega)
  have m2 := mul_bd h5 (b := cl q 0 67108864 - cl p.2 0 67108864) (by omega)
  have hb : -2305843009213693952 ≤ piBy p q l ∧ piBy p q l ≤ 2305843009213693952 := by unfold piBy; omega
  refine ⟨wrapI64 (by omega) (by omega), wrapI64 (by omega) (by omega), ?_, ⟨by omega, by omega⟩, wrapI64 (by omega) (by omega)⟩
  rw [wrapI64 (x := cl l.2.2.2.1 0 17179869184 * _) (by omega) (by omega), wrapI64 (x := cl l.2.2.2.2.1 0 17179869184 * _) (by omega) (by omega), wrapI64 (by omega) (by omega)]
  rfl

theorem pi_Step_eq (N : Nat) (p : Int × Int) (q : Int) (l : L8) : W.pi_Step N p q l = some (piStep p q l) := by
  obtain ⟨e1, e2, e3, e4, e5⟩ := pi_facts p q l
  simp only [W.pi_Step, W.pi_keep_1, sat_Clamp_eq, Option.bind_some, e1, e2, e3, dsat_Div_eq N e4 (show (0 : Int) < 1000000 by omega), e5, piStep]

def upd (s : St) (now : Int) : St := { s with pi := piStep s.pi (imx (dl now s.q1) (dl now s.q2)) s.l }

theorem dual_Wait (N : Nat) {D : List Int} {s : St} {h : Hid} (now : Int) (R : Rep D s h) : W.dual_Queue_Wait N ((now, ()), cD s h) = some (dl now s.q1, dl now s.q2) := by
  simp only [W.dual_Queue_Wait, (dual_delay N now R).1, (dual_delay N now R).2, Option.bind_some]

theorem dual_Update (N : Nat) {D : List Int} {s : St} {h : Hid} (now : Int) (R : Rep D s h) : W.dual_Queue_Update N ((now, ()), cS s h D) = some ((), cS (upd s now) h D) := by
  simp only [W.dual_Queue_Update, dual_Wait N now R, pi_Step_eq, Option.bind_some, upd]

theorem Good_upd {n : Nat} {s : St} (now : Int) (G : Good n s) : Good n (upd s now) := ⟨G.w1, G.w2, G.b1, G.b2, G.sz1, G.sz2, G.c1, G.u0, G.len, G.lim⟩

theorem Good.mono {n : Nat} {s : St} (G : Good n s) : Good (n + 1) s := ⟨G.w1, G.w2, G.b1, G.b2, G.sz1, G.sz2, G.c1, G.u0, by have := G.len; omega, G.lim⟩

theorem Good_put {n : Nat} {s : St} (now : Int) (p : Pk) (G : Good n s) (hn : n ≤ 99) : Good (n + 1) (put s now p).1 := by
  have g1 := G.w1; have g2 := G.w2; have g3 := G.b1; have g4 := G.b2; have g5 := sumS_in G.sz1; have g6 := sumS_in G.sz2; have g7 := G.u0; have g8 := G.len
  have hc : 1 ≤ cl p.2.2.1 1 65536 ∧ cl p.2.2.1 1 65536 ≤ 65536 := cl_in (by omega)
  have app : ∀ q : List Pk, SzOK q → SzOK (q ++ [putP now p]) := fun q hq x hx => by
    rcases List.mem_append.1 hx with h | h
    · exact hq x h
    · rw [List.mem_singleton.1 h]; exact hc
  unfold put
  split
  · rename_i hl
    split
    · exact ⟨g1, g2, g3, g4, G.sz1, G.sz2, G.c1, g7, by simp only; omega, G.lim⟩
    · refine ⟨?_, g2, ?_, g4, app _ G.sz1, G.sz2, ?_, g7, ?_, G.lim⟩
      · simp only [tAcc, List.length_append, List.length_singleton]; rw [wrapI64 (by omega) (by omega)]; omega
      · simp only [tAcc, sumS_app, putP]; rw [wrapI64 (by omega) (by omega)]; omega
      · intro x hx
        rcases List.mem_append.1 hx with h | h
        · exact G.c1 x h
        · rw [List.mem_singleton.1 h]; exact hl
      · simp only [List.length_append, List.length_singleton]; omega
  · split
    · exact ⟨g1, g2, g3, g4, G.sz1, G.sz2, G.c1, g7, by simp only; omega, G.lim⟩
    · refine ⟨g1, ?_, g3, ?_, G.sz1, app _ G.sz2, G.c1, g7, ?_, G.lim⟩
      · simp only [tAcc, List.length_append, List.length_singleton]; rw [wrapI64 (by omega) (by omega)]; omega
      · simp only [tAcc, sumS_app, putP]; rw [wrapI64 (by omega) (by omega)]; omega
      · simp only [List.length_append, List.length_singleton]; omega

def act (D : List Int) (s : St) (a : Int × Int × Pk) : St := if a.1 = 1 then (takeA D a.2.1 s).1 else if a.1 = 2 then upd s a.2.1 else (put s a.2.1 a.2.2).1

theorem take_len (D : List Int) (now : Int) : ∀ (f : Nat) (s : St) (lost : List Pk), (take D now f s lost).2.2.1.length ≤ lost.length + f := by
  intro f
  induction f with
  | zero => intro s lost; exact Nat.le_refl _
  | succ f ih =>
    intro s lost
    unfold take
    split
    · simp only; omega
    · split
      · cases (j1 D now s).2.2
        · simp only [cond_false]; omega
        · have := ih (gone1 D now s) (lost ++ [hd s.q1])
          simp only [List.length_append, List.length_singleton] at this
          simp only [cond_true]; omega
      · cases (j2 D now s).2.2
        · simp only [cond_false]; omega
        · have := ih (gone2 D now s) (lost ++ [hd s.q2])
          simp only [List.length_append, List.length_singleton] at this
          simp only [cond_true]; omega

abbrev cP (s : St) (h : Hid) (D : List Int) : (L8 × T9 × T9 × T9 × (Int × Int) × Int × Unit) × (Int × Int × Int × Unit) × (Int × Int × Int × Unit) × (Int × Unit) × Unit × (Int × Unit) × List Pk × List Pk × List Int × List Pk × List Pk × List Int × Unit :=
  (cA s, ((h.f1, (h.m1, (65536, ()))), ((h.f2, (h.m2, (65536, ()))), ((s.used, ()), ((), ((h.dat, ()), (h.r1, (h.r2, (D, (s.q1, (s.q2, (D, ()))))))))))))

end Go.Proofs.YtgjmfljogaanfaaGreat.Pure
