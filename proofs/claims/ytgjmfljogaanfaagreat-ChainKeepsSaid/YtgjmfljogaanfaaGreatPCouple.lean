/- The shares of two coupled queues: what the program and the document's answer compute; the laws. -/
import Derived.Test.YtgjmfljogaanfaaGreatPStep
namespace Go.Proofs.YtgjmfljogaanfaaGreat.Pure
open Go.Ev Go.RowKit

theorem couple_within_eq (N : Nat) (p k : Int) : W.couple_within N p k = some (cl p 0 4294967296, cl k 0 65536) := by
  simp only [W.couple_within, W.couple_within_1, sat_Clamp_eq, Option.bind_some]

def csq (p : Int) : Int := cl p 0 4294967296 * cl p 0 4294967296 / 4294967296

def clow (p k : Int) : Int := min (cl p 0 4294967296 * cl k 0 65536) 4294967296

theorem clp (p : Int) : 0 ≤ cl p 0 4294967296 ∧ cl p 0 4294967296 ≤ 4294967296 := cl_in (by omega)

theorem clk (k : Int) : 0 ≤ cl k 0 65536 ∧ cl k 0 65536 ≤ 65536 := cl_in (by omega)

theorem csq_in (p : Int) : 0 ≤ csq p ∧ csq p ≤ cl p 0 4294967296 := by
  have h := clp p
  have m := Int.mul_le_mul_of_nonneg_left h.2 h.1
  have n := Int.mul_nonneg h.1 h.1
  simp only [csq]
  refine ⟨Int.ediv_nonneg n (by omega), ?_⟩
  have := Int.ediv_le_ediv (show (0 : Int) < 4294967296 by omega) m
  rwa [Int.mul_ediv_cancel _ (by omega)] at this

theorem cpk_in (p k : Int) : 0 ≤ cl p 0 4294967296 * cl k 0 65536 ∧ cl p 0 4294967296 * cl k 0 65536 ≤ 281474976710656 := by
  have h := clp p; have g := clk k
  have m := Int.mul_le_mul h.2 g.2 g.1 (by omega : (0 : Int) ≤ 4294967296)
  exact ⟨Int.mul_nonneg h.1 g.1, by omega⟩

theorem clow_in (p k : Int) : 0 ≤ clow p k ∧ clow p k ≤ 4294967296 := by
  have := cpk_in p k
  simp only [clow]; omega

theorem csq_mono {a b : Int} (h : a ≤ b) : csq a ≤ csq b := by
  have h1 := cl_mono 0 4294967296 h
  have h2 := clp a; have h3 := clp b
  exact Int.ediv_le_ediv (by omega) (Int.mul_le_mul h1 h1 h2.1 h3.1)

theorem clow_mono {a b c d : Int} (h : a ≤ b) (g : c ≤ d) : clow a c ≤ clow b d := by
  have h1 := cl_mono 0 4294967296 h
  have g1 := cl_mono 0 65536 g
  have := Int.mul_le_mul h1 g1 (clk c).1 (clp b).1
  simp only [clow]; omega

theorem couple_Classic_eq (N : Nat) (p : Int) (hN : 2000 < N) : W.couple_Classic N p = some (csq p) := by
  have h := clp p
  have g := csq_in p
  simp only [W.couple_Classic, couple_within_eq, Option.bind_some]
  rw [wide_MulDiv_eq N ⟨by omega, by omega⟩ ⟨by omega, by omega⟩ ⟨by omega, by omega⟩ hN]
  simp only [csq] at g ⊢
  simp only [mdv, Option.bind_some, Bool.false_eq_true, false_and, if_false]
  rw [if_neg (by omega), if_neg (by omega)]

theorem couple_Low_eq (N : Nat) (p k : Int) : W.couple_Low N p k = some (clow p k) := by
  have h := cpk_in p k
  simp only [W.couple_Low, couple_within_eq, Option.bind_some, clow]
  rw [wrapI64 (by omega) (by omega)]
  simp only [Option.some.injEq]
  split <;> omega

theorem couple_Hit_eq (N : Nat) {d : Int} (s : Int) (hd : 0 ≤ d ∧ d ≤ 4294967295) : W.couple_Hit N d s = some (decide (d < s)) := by
  simp only [W.couple_Hit]
  rw [wrapI64 (by omega) (by omega)]

theorem couple_Over_eq (N : Nat) (p k : Int) : W.couple_Over N p k = some (decide (0 < p ∧ 4294967296 ≤ cl p 0 4294967296 * cl k 0 65536)) := by
  have h := clp p
  have e : cl (cl p 0 4294967296) 0 4294967296 = cl p 0 4294967296 := by simp only [cl]; omega
  simp only [W.couple_Over, couple_within_eq, couple_Low_eq, Option.bind_some, clow, e]
  by_cases h0 : 0 < p
  · rw [decide_eq_true (show 0 < cl p 0 4294967296 by simp only [cl]; omega)]
    simp only [beq_self_eq_true, cond_true, Option.some.injEq]
    by_cases h1 : 4294967296 ≤ cl p 0 4294967296 * cl k 0 65536
    · rw [decide_eq_true ⟨h0, h1⟩, Int.min_eq_right h1]; rfl
    · rw [decide_eq_false (fun x => h1 x.2), Int.min_eq_left (by omega)]
      exact beq_false_of_ne (by omega)
  · rw [decide_eq_false (show ¬ 0 < cl p 0 4294967296 by simp only [cl]; omega), decide_eq_false (fun x => h0 x.1)]; rfl

end Go.Proofs.YtgjmfljogaanfaaGreat.Pure
