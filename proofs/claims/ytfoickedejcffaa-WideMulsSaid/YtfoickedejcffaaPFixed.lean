/- Shares in whole numbers: what the program and the document's answer compute. -/
import Derived.Test.YtfoickedejcffaaPWide
namespace Go.Proofs.Ytfoickedejcffaa.Pure
open Go.Ev Go.RowKit

theorem tmod_sign {a b : Int} (hb : 0 < b) : (a.tmod b < 0 ↔ a.tmod b ≠ 0 ∧ a < 0) := by
  by_cases h : 0 ≤ a
  · rw [tmod_nn h]; have := Int.emod_nonneg a (show b ≠ 0 by omega); omega
  · have := Int.tmod_nonneg b (show 0 ≤ -a by omega)
    rw [Int.neg_tmod] at this; omega

/-- A ratio. -/
def ratio (a b : Int) : Int := if a ≤ 0 then 0 else if b ≤ 0 ∨ b ≤ a then 1048576 else a * 1048576 / b

theorem ratio_in (a b : Int) : 0 ≤ ratio a b ∧ ratio a b ≤ 1048576 := by
  simp only [ratio]
  split
  · omega
  · split
    · omega
    · refine ⟨Int.ediv_nonneg (by omega) (by omega), ?_⟩
      have : a * 1048576 / b < 1048576 := Int.ediv_lt_of_lt_mul (by omega) (by omega)
      omega

/-- A step towards a number. -/
def toward (x y n : Int) : Int := sadd x (ssub y x / 2 ^ (cl n 0 62).toNat)

theorem sadd_I (a b : Int) : I64 (sadd a b) := by simp only [sadd, cl]; constructor <;> omega

theorem ssub_I (a b : Int) : I64 (ssub a b) := by simp only [ssub, cl]; constructor <;> omega

/-- Half of half, so often. -/
def halve (x n : Int) : Int := x / 2 ^ (cl n 0 64).toNat

theorem ediv_pow_succ (x : Int) (i : Nat) : x / 2 ^ i / 2 = x / 2 ^ (i + 1) := by
  have := pow_pos' i
  rw [Int.pow_succ, Int.ediv_ediv, if_neg (fun h => absurd h.1 (by omega)), Int.sub_zero]

end Go.Proofs.Ytfoickedejcffaa.Pure
