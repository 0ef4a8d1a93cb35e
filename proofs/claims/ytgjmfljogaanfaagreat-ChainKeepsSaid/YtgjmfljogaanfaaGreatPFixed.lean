/- Shares in whole numbers: what the program and the document's answer compute. -/
import Derived.Test.YtgjmfljogaanfaaGreatPWide
namespace Go.Proofs.YtgjmfljogaanfaaGreat.Pure
open Go.Ev Go.RowKit

theorem tmod_sign {a b : Int} (hb : 0 < b) : (a.tmod b < 0 ↔ a.tmod b ≠ 0 ∧ a < 0) := by
  by_cases h : 0 ≤ a
  · rw [tmod_nn h]; have := Int.emod_nonneg a (show b ≠ 0 by omega); omega
  · have := Int.tmod_nonneg b (show 0 ≤ -a by omega)
    rw [Int.neg_tmod] at this; omega

theorem sat_Div_eq (N : Nat) {a b : Int} (ha : I64 a) (hb : 0 < b) : W.sat_Div N a b = some (a / b) := by
  have hq := tdiv_I ha hb
  have hd := ediv_I ha hb
  have hs := tmod_sign (a := a) hb
  rw [← floor_div hb] at hd ⊢
  simp only [W.sat_Div]
  rw [beq_false_of_ne (show b ≠ 0 by omega), beq_false_of_ne (show b ≠ -1 by omega), wrapI64 hq.1 hq.2, decide_eq_false (show ¬ b = 0 by omega), decide_eq_false (show ¬ b < 0 by omega)]
  have key : (bif (!(a.tmod b == 0)) == true then bif !(decide (a < 0) == false) then some (IntKind.wrap .i64 (a.tdiv b - 1)) else some (a.tdiv b) else some (a.tdiv b)) = some (if a.tmod b ≠ 0 ∧ a.tmod b < 0 then a.tdiv b - 1 else a.tdiv b) := by
    by_cases h1 : a.tmod b = 0
    · rw [h1]; simp
    · rw [beq_false_of_ne h1]
      by_cases h2 : a < 0
      · have h3 := hs.2 ⟨h1, h2⟩
        rw [if_pos ⟨h1, h3⟩] at hd ⊢
        rw [decide_eq_true h2, wrapI64 hd.1 hd.2]
        rfl
      · rw [if_neg (fun h => h2 (hs.1 h.2).2), decide_eq_false h2]
        rfl
  simp only [Bool.not_false, cond_true, cond_false, key]
  cases (a == -9223372036854775808) == true <;> rfl

/-- A ratio. -/
def ratio (a b : Int) : Int := if a ≤ 0 then 0 else if b ≤ 0 ∨ b ≤ a then 1048576 else a * 1048576 / b

theorem ratio_in (a b : Int) : 0 ≤ ratio a b ∧ ratio a b ≤ 1048576 := by
  simp only [ratio]
  split
  · omega
  · split
    · omega
    · refine ⟨Int.ediv_nonneg (by omega) (by omega), ?_⟩
      have : a * 1048576 / b < 1048576 := Int.ediv_lt_of_lt_mul (by omega) (by omega)
      omega

/-- A step towards a number. -/
def toward (x y n : Int) : Int := sadd x (ssub y x / 2 ^ (cl n 0 62).toNat)

theorem sadd_I (a b : Int) : I64 (sadd a b) := by simp only [sadd, cl]; constructor <;> omega

theorem ssub_I (a b : Int) : I64 (ssub a b) := by simp only [ssub, cl]; constructor <;> omega

/-- Half of half, so often. -/
def halve (x n : Int) : Int := x / 2 ^ (cl n 0 64).toNat

theorem ediv_pow_succ (x : Int) (i : Nat) : x / 2 ^ i / 2 = x / 2 ^ (i + 1) := by
  have := pow_pos' i
  rw [Int.pow_succ, Int.ediv_ediv, if_neg (fun h => absurd h.1 (by omega)), Int.sub_zero]

end Go.Proofs.YtgjmfljogaanfaaGreat.Pure
