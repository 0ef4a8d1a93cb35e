/- The numbers that keep within their ends: what each function of the program and of the document's answer comes to. -/
import Derived.Test.YtgjmfljogaanfaaGreatPBase
import Derived.Test.YtgjmfljogaanfaaGreatW0
namespace Go.Proofs.YtgjmfljogaanfaaGreat.Pure
open Go.Ev Go.RowKit

theorem sat_Clamp_eq (N : Nat) (a lo hi : Int) : W.sat_Clamp N a lo hi = some (cl a lo hi) := by
  simp only [W.sat_Clamp, cl, Option.some.injEq]
  repeat' split
  all_goals omega

/-- The floor of a quotient, as both texts work it out. -/
theorem floor_div {a b : Int} (hb : 0 < b) : (if a.tmod b ≠ 0 ∧ a.tmod b < 0 then a.tdiv b - 1 else a.tdiv b) = a / b := by
  have h1 := Int.tmod_add_mul_tdiv a b
  have h2 := Int.emod_add_mul_ediv a b
  have h3 := Int.emod_nonneg a (show b ≠ 0 by omega)
  have h4 := Int.emod_lt_of_pos a hb
  rcases Int.lt_or_le a 0 with h | h
  · have h5 : a.tmod b ≤ 0 := by
      have := Int.tmod_nonneg b (show 0 ≤ -a by omega)
      rw [Int.neg_tmod] at this; omega
    have h6 : -b < a.tmod b := by
      have := Int.tmod_lt_of_pos (-a) hb
      rw [Int.neg_tmod] at this; omega
    split
    · have : a.tdiv b - 1 = a / b := by
        have e : b * (a.tdiv b - 1 - a / b) = a % b - b - a.tmod b := by grind
        have : a.tdiv b - 1 - a / b = 0 := by
          rcases Int.lt_trichotomy (a.tdiv b - 1 - a / b) 0 with h | h | h
          · have := Int.mul_le_mul_of_nonneg_left (show a.tdiv b - 1 - a / b ≤ -1 by omega) (show 0 ≤ b by omega); omega
          · exact h
          · have := Int.mul_le_mul_of_nonneg_left (show 1 ≤ a.tdiv b - 1 - a / b by omega) (show 0 ≤ b by omega); omega
        omega
      exact this
    · have e : b * (a.tdiv b - a / b) = a % b - a.tmod b := by grind
      have : a.tdiv b - a / b = 0 := by
        rcases Int.lt_trichotomy (a.tdiv b - a / b) 0 with h | h | h
        · have := Int.mul_le_mul_of_nonneg_left (show a.tdiv b - a / b ≤ -1 by omega) (show 0 ≤ b by omega); omega
        · exact h
        · have := Int.mul_le_mul_of_nonneg_left (show 1 ≤ a.tdiv b - a / b by omega) (show 0 ≤ b by omega); omega
      omega
  · rw [tmod_nn h, tdiv_nn h, if_neg (by omega)]

theorem tdiv_I {a b : Int} (ha : I64 a) (hb : 0 < b) : I64 (a.tdiv b) := by
  have := Int.natAbs_tdiv_le_natAbs a b
  by_cases h : 0 ≤ a
  · rw [tdiv_nn h]
    have := Int.ediv_le_self b h
    have := Int.ediv_nonneg h (show 0 ≤ b by omega)
    exact ⟨by omega, by omega⟩
  · have e : a.tdiv b = -((-a).tdiv b) := by rw [Int.neg_tdiv]; omega
    rw [e, tdiv_nn (by omega)]
    have := Int.ediv_le_self b (show 0 ≤ -a by omega)
    have := Int.ediv_nonneg (show 0 ≤ -a by omega) (show 0 ≤ b by omega)
    exact ⟨by omega, by omega⟩

theorem ediv_I {a b : Int} (ha : I64 a) (hb : 0 < b) : I64 (a / b) := by
  constructor
  · have := Int.le_ediv_of_mul_le hb (show -9223372036854775808 * b ≤ a by
      have := Int.mul_le_mul_of_nonpos_left (show (-9223372036854775808 : Int) ≤ 0 by omega) (show 1 ≤ b by omega)
      omega)
    exact this
  · by_cases h : 0 ≤ a
    · have := Int.ediv_le_self b h; omega
    · have := Int.ediv_neg_of_neg_of_pos (show a < 0 by omega) hb; omega

end Go.Proofs.YtgjmfljogaanfaaGreat.Pure
