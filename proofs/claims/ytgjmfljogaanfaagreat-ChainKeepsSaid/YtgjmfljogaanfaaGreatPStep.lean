/- The share of a delay, and the shares of two coupled queues: what the program and the document's answer compute; the laws of both. -/
import Derived.Test.YtgjmfljogaanfaaGreatPWide
namespace Go.Proofs.YtgjmfljogaanfaaGreat.Pure
open Go.Ev Go.RowKit

theorem div_le_div {a b c : Int} (hc : 0 < c) (h : a ≤ b) : a / c ≤ b / c := Int.ediv_le_ediv hc h

/-- The share of a delay. -/
def ramp (q lo hi : Int) : Int :=
  if cl q 0 67108864 < cl lo 0 67108864 then 0 else if cl hi 0 67108864 ≤ cl q 0 67108864 then 4294967296
  else (cl q 0 67108864 - cl lo 0 67108864) * 4294967296 / (cl hi 0 67108864 - cl lo 0 67108864)

theorem cl_in {a lo hi : Int} (h : lo ≤ hi) : lo ≤ cl a lo hi ∧ cl a lo hi ≤ hi := by simp only [cl]; omega

theorem cl_mono {a b : Int} (lo hi : Int) (h : a ≤ b) : cl a lo hi ≤ cl b lo hi := by simp only [cl]; omega

theorem step_Ramp_1_eq (N : Nat) (a : Int) : W.step_Ramp_1 N a = some (cl a 0 67108864) := by
  simp only [W.step_Ramp_1, sat_Clamp_eq, Option.bind_some]

theorem ramp_in (q lo hi : Int) : 0 ≤ ramp q lo hi ∧ ramp q lo hi ≤ 4294967296 := by
  have h1 := cl_in (a := q) (show (0 : Int) ≤ 67108864 by omega)
  have h2 := cl_in (a := lo) (show (0 : Int) ≤ 67108864 by omega)
  have h3 := cl_in (a := hi) (show (0 : Int) ≤ 67108864 by omega)
  simp only [ramp]
  split
  · omega
  · split
    · omega
    · refine ⟨Int.ediv_nonneg (by omega) (by omega), ?_⟩
      have : (cl q 0 67108864 - cl lo 0 67108864) * 4294967296 / (cl hi 0 67108864 - cl lo 0 67108864) < 4294967296 := Int.ediv_lt_of_lt_mul (by omega) (by omega)
      omega

theorem ramp_mono {a b : Int} (lo hi : Int) (h : a ≤ b) : ramp a lo hi ≤ ramp b lo hi := by
  have h1 := cl_mono 0 67108864 h
  have h4 := ramp_in a lo hi
  have h5 := ramp_in b lo hi
  simp only [ramp] at *
  by_cases c1 : cl a 0 67108864 < cl lo 0 67108864
  · rw [if_pos c1] at h4 ⊢; omega
  · by_cases c2 : cl hi 0 67108864 ≤ cl b 0 67108864
    · rw [if_neg (show ¬ cl b 0 67108864 < cl lo 0 67108864 by omega), if_pos c2]; omega
    · rw [if_neg c1, if_neg (show ¬ cl hi 0 67108864 ≤ cl a 0 67108864 by omega), if_neg (show ¬ cl b 0 67108864 < cl lo 0 67108864 by omega), if_neg c2]
      exact div_le_div (by omega) (by omega)

theorem step_Ramp_eq (N : Nat) (q lo hi : Int) (hN : 2000 < N) : W.step_Ramp N q lo hi = some (ramp q lo hi) := by
  have h1 := cl_in (a := q) (show (0 : Int) ≤ 67108864 by omega)
  have h2 := cl_in (a := lo) (show (0 : Int) ≤ 67108864 by omega)
  have h3 := cl_in (a := hi) (show (0 : Int) ≤ 67108864 by omega)
  have hr := ramp_in q lo hi
  simp only [W.step_Ramp, step_Ramp_1_eq, Option.bind_some]
  simp only [ramp] at hr ⊢
  by_cases c1 : cl q 0 67108864 < cl lo 0 67108864
  · rw [bift c1, if_pos c1]
  by_cases c2 : cl hi 0 67108864 ≤ cl q 0 67108864
  · rw [biff c1, bift c2, if_neg c1, if_pos c2]
  rw [if_neg c1, if_neg c2] at hr
  rw [biff c1, biff c2, if_neg c1, if_neg c2, wrapI64 (by omega) (by omega), wrapI64 (by omega) (by omega), wide_MulDiv_eq N ⟨by omega, by omega⟩ ⟨by omega, by omega⟩ ⟨by omega, by omega⟩ hN]
  simp only [Option.bind_some, mdv, Bool.false_eq_true, false_and, if_false]
  rw [if_neg (by omega), Int.mul_comm, if_neg (by omega)]

theorem step_Mark_eq (N : Nat) (q : Int) (l : Int × Int × Int × Int × Int × Int × Int × Int) (c : Int) (hN : 2000 < N) : W.step_Mark N q l c = some (max (ramp q l.2.2.2.2.2.2.1 l.2.2.2.2.2.2.2) (cl c 0 4294967296)) := by
  simp only [W.step_Mark, step_Ramp_eq N _ _ _ hN, sat_Clamp_eq, Option.bind_some, Option.some.injEq]
  split <;> omega

end Go.Proofs.YtgjmfljogaanfaaGreat.Pure
