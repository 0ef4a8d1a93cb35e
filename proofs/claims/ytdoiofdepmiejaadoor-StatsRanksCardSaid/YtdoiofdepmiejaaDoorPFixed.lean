/- Shares in whole numbers: what the program and the document's answer compute. -/
import Derived.Test.YtdoiofdepmiejaaDoorPWide
namespace Go.Proofs.YtdoiofdepmiejaaDoor.Pure
open Go.Ev Go.RowKit

theorem tmod_sign {a b : Int} (hb : 0 < b) : (a.tmod b < 0 ↔ a.tmod b ≠ 0 ∧ a < 0) := by
  by_cases h : 0 ≤ a
  · rw [tmod_nn h]; have := Int.emod_nonneg a (show b ≠ 0 by omega); omega
  · have := Int.tmod_nonneg b (show 0 ≤ -a by omega)
    rw [Int.neg_tmod] at this; omega

/-- A ratio. -/
def ratio (a b : Int) : Int := if a ≤ 0 then 0 else if b ≤ 0 ∨ b ≤ a then 1048576 else a * 1048576 / b

theorem ratio_in (a b : Int) : 0 ≤ ratio a b ∧ ratio a b ≤ 1048576 := by
  simp only [ratio]
  split
  · omega
  · split
    · omega
    · refine ⟨Int.ediv_nonneg (by omega) (by omega), ?_⟩
      have : a * 1048576 / b < 1048576 := Int.ediv_lt_of_lt_mul (by omega) (by omega)
      omega

theorem fixed_Ratio_eq (N : Nat) {a b : Int} (ha : I64 a) (hb : I64 b) (hN : 2000 < N) : W.fixed_Ratio N a b = some (ratio a b) := by
  have hr := ratio_in a b
  simp only [W.fixed_Ratio]
  simp only [ratio] at hr ⊢
  by_cases h1 : a ≤ 0
  · rw [bift h1, if_pos h1]
  rw [biff h1, if_neg h1] at *
  by_cases h2 : b ≤ 0
  · rw [decide_eq_true h2, if_pos (.inl h2)]; rfl
  rw [decide_eq_false h2]
  by_cases h3 : b ≤ a
  · rw [if_pos (.inr h3)]; simp [h3]
  rw [if_neg (show ¬ (b ≤ 0 ∨ b ≤ a) by omega)] at hr ⊢
  rw [biff h3, wide_MulDiv_eq N ha ⟨by omega, by omega⟩ hb hN]
  simp only [mdv, Option.bind_some, Bool.false_eq_true, false_and, if_false]
  rw [if_neg (show ¬ (a < 0 ∨ (1048576 : Int) < 0 ∨ b ≤ 0) by omega), if_neg (show ¬ 9223372036854775807 < a * 1048576 / b by omega)]
  rfl

theorem leatref04_quo_eq (N : Nat) {a b c : Int} (ha : I64 a) (hb : I64 b) (hc : I64 c) (a0 : 0 ≤ a) (b0 : 0 ≤ b) (c0 : 0 < c) (hq : a * b / c ≤ 9223372036854775807) (hN : 2000 < N) : W.leatref04_quo N a b c = some (a * b / c) := by
  have m := leatref02_MulDiv_eq N ha hb hc false hN
  have n := Int.mul_nonneg a0 b0
  simp only [mdv, Bool.false_eq_true, false_and, if_false] at m
  rw [if_neg (by omega), if_neg (by omega)] at m
  simp only [W.leatref04_quo, m, Option.bind_some, bifd]
  by_cases h : a < 4398046511104
  · rw [decide_eq_true h]
    by_cases h2 : b ≤ 1048576
    · have k := Int.mul_le_mul (show a ≤ 4398046511103 by omega) h2 b0 (by omega)
      have q := Int.ediv_nonneg n (show 0 ≤ c by omega)
      rw [wrapI64 (x := a * b) (by omega) (by omega), tdiv_nn n, wrapI64 (by omega) hq, decide_eq_false (show ¬ c = 0 by omega), if_pos h2]; rfl
    · rw [if_neg h2]; rfl
  · rw [decide_eq_false h]; rfl

theorem leatref04_Ratio_eq (N : Nat) {a b : Int} (ha : I64 a) (hb : I64 b) (hN : 2000 < N) : W.leatref04_Ratio N a b = some (ratio a b) := by
  have hr := ratio_in a b
  simp only [W.leatref04_Ratio]
  simp only [ratio] at hr ⊢
  by_cases h1 : a ≤ 0
  · rw [bift h1, if_pos h1]
  rw [biff h1, if_neg h1] at *
  by_cases h2 : b ≤ 0
  · rw [decide_eq_true h2, if_pos (.inl h2)]; rfl
  rw [decide_eq_false h2]
  by_cases h3 : b ≤ a
  · rw [if_pos (.inr h3)]; simp [h3]
  rw [if_neg (show ¬ (b ≤ 0 ∨ b ≤ a) by omega)] at hr ⊢
  rw [biff h3, leatref04_quo_eq N ha ⟨by omega, by omega⟩ hb (by omega) (by omega) (by omega) (by omega) hN]
  rfl

/-- A step towards a number. -/
def toward (x y n : Int) : Int := sadd x (ssub y x / 2 ^ (cl n 0 62).toNat)

theorem sadd_I (a b : Int) : I64 (sadd a b) := by simp only [sadd, cl]; constructor <;> omega

theorem ssub_I (a b : Int) : I64 (ssub a b) := by simp only [ssub, cl]; constructor <;> omega

/-- Half of half, so often. -/
def halve (x n : Int) : Int := x / 2 ^ (cl n 0 64).toNat

theorem ediv_pow_succ (x : Int) (i : Nat) : x / 2 ^ i / 2 = x / 2 ^ (i + 1) := by
  have := pow_pos' i
  rw [Int.pow_succ, Int.ediv_ediv, if_neg (fun h => absurd h.1 (by omega)), Int.sub_zero]

end Go.Proofs.YtdoiofdepmiejaaDoor.Pure
