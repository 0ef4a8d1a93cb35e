/- The numbers that keep within their ends: what each function of the program and of the document's answer comes to. -/
import Derived.Test.YtgjmfljogaanfaaGreatPBase
import Derived.Test.YtgjmfljogaanfaaGreatW0
namespace Go.Proofs.YtgjmfljogaanfaaGreat.Pure
open Go.Ev Go.RowKit

theorem sat_Clamp_eq (N : Nat) (a lo hi : Int) : W.sat_Clamp N a lo hi = some (cl a lo hi) := by
  simp only [W.sat_Clamp, cl, Option.some.injEq]
  repeat' split
  all_goals omega

theorem leatref01_Neg_eq (N : Nat) {a : Int} (ha : I64 a) : W.leatref01_Neg N a = some (ssub 0 a) := by
  simp only [W.leatref01_Neg, ssub, cl, wrapI64_def]
  by_cases h : a = -9223372036854775808
  · subst h; rfl
  · rw [beq_false_of_ne h]; simp only [cond_false, Option.some.injEq]; omega

/-- The floor of a quotient, as both texts work it out. -/
theorem floor_div {a b : Int} (hb : 0 < b) : (if a.tmod b ≠ 0 ∧ a.tmod b < 0 then a.tdiv b - 1 else a.tdiv b) = a / b := by
  have h1 := Int.tmod_add_mul_tdiv a b
  have h2 := Int.emod_add_mul_ediv a b
  have h3 := Int.emod_nonneg a (show b ≠ 0 by omega)
  have h4 := Int.emod_lt_of_pos a hb
  rcases Int.lt_or_le a 0 with h | h
  · have h5 : a.tmod b ≤ 0 := by
      have := Int.tmod_nonneg b (show 0 ≤ -a by omega)
      rw [Int.neg_tmod] at this; omega
    have h6 : -b < a.tmod b := by
      have := Int.tmod_lt_of_pos (-a) hb
      rw [Int.neg_tmod] at this; omega
    split
    · have : a.tdiv b - 1 = a / b := by
        have e : b * (a.tdiv b - 1 - a / b) = a % b - b - a.tmod b := by grind
        have : a.tdiv b - 1 - a / b = 0 := by
          rcases Int.lt_trichotomy (a.tdiv b - 1 - a / b) 0 with h | h | h
          · have := Int.mul_le_mul_of_nonneg_left (show a.tdiv b - 1 - a / b ≤ -1 by omega) (show 0 ≤ b by omega); omega
          · exact h
          · have := Int.mul_le_mul_of_nonneg_left (show 1 ≤ a.tdiv b - 1 - a / b by omega) (show 0 ≤ b by omega); omega
        omega
      exact this
    · have e : b * (a.tdiv b - a / b) = a % b - a.tmod b := by grind
      have : a.tdiv b - a / b = 0 := by
        rcases Int.lt_trichotomy (a.tdiv b - a / b) 0 with h | h | h
        · have := Int.mul_le_mul_of_nonneg_left (show a.tdiv b - a / b ≤ -1 by omega) (show 0 ≤ b by omega); omega
        · exact h
        · have := Int.mul_le_mul_of_nonneg_left (show 1 ≤ a.tdiv b - a / b by omega) (show 0 ≤ b by omega); omega
      omega
  · rw [tmod_nn h, tdiv_nn h, if_neg (by omega)]

theorem tdiv_I {a b : Int} (ha : I64 a) (hb : 0 < b) : I64 (a.tdiv b) := by
  have := Int.natAbs_tdiv_le_natAbs a b
  by_cases h : 0 ≤ a
  · rw [tdiv_nn h]
    have := Int.ediv_le_self b h
    have := Int.ediv_nonneg h (show 0 ≤ b by omega)
    exact ⟨by omega, by omega⟩
  · have e : a.tdiv b = -((-a).tdiv b) := by rw [Int.neg_tdiv]; omega
    rw [e, tdiv_nn (by omega)]
    have := Int.ediv_le_self b (show 0 ≤ -a by omega)
    have := Int.ediv_nonneg (show 0 ≤ -a by omega) (show 0 ≤ b by omega)
    exact ⟨by omega, by omega⟩

theorem ediv_I {a b : Int} (ha : I64 a) (hb : 0 < b) : I64 (a / b) := by
  constructor
  · have := Int.le_ediv_of_mul_le hb (show -9223372036854775808 * b ≤ a by
      have := Int.mul_le_mul_of_nonpos_left (show (-9223372036854775808 : Int) ≤ 0 by omega) (show 1 ≤ b by omega)
      omega)
    exact this
  · by_cases h : 0 ≤ a
    · have := Int.ediv_le_self b h; omega
    · have := Int.ediv_neg_of_neg_of_pos (show a < 0 by omega) hb; omega

theorem leatref01_Div_eq (N : Nat) {a b : Int} (ha : I64 a) (hb : I64 b) (h0 : 0 < b) : W.leatref01_Div N a b = some (a / b) := by
  have hq := tdiv_I ha h0
  have e : a - b * a.tdiv b = a.tmod b := by have := Int.tmod_add_mul_tdiv a b; omega
  have hm : -b < a.tmod b ∧ a.tmod b < b := by
    constructor
    · by_cases h : 0 ≤ a
      · rw [tmod_nn h]; have := Int.emod_nonneg a (show b ≠ 0 by omega); omega
      · have := Int.tmod_lt_of_pos (-a) h0
        rw [Int.neg_tmod] at this; omega
    · exact Int.tmod_lt_of_pos a h0
  have hd := ediv_I ha h0
  rw [← floor_div h0] at hd ⊢
  have e1 : IntKind.wrap .i64 (a - IntKind.wrap .i64 (IntKind.wrap .i64 (a.tdiv b) * b)) = a.tmod b := by
    rw [wrapI64 hq.1 hq.2, Int.mul_comm, wrapI64_def, wrapI64_def]
    omega
  simp only [W.leatref01_Div, e1]
  rw [beq_false_of_ne (show b ≠ 0 by omega), beq_false_of_ne (show b ≠ -1 by omega), wrapI64 hq.1 hq.2, decide_eq_false (show ¬ b = 0 by omega), decide_eq_false (show ¬ b < 0 by omega)]
  simp only [cond_false, Bool.not_false, cond_true, beq_true]
  by_cases h1 : a.tmod b = 0
  · rw [h1] at hd ⊢
    simp
  · rw [beq_false_of_ne h1]
    by_cases h2 : a.tmod b < 0
    · rw [if_pos ⟨h1, h2⟩] at hd ⊢
      rw [decide_eq_true h2]
      rw [wrapI64 hd.1 hd.2]
      rfl
    · rw [if_neg (fun h => h2 h.2)]
      rw [decide_eq_false h2]
      simp

end Go.Proofs.YtgjmfljogaanfaaGreat.Pure
