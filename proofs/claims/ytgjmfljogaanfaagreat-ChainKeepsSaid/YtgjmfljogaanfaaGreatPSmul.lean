/- Products that keep within their ends. -/
import Derived.Test.YtgjmfljogaanfaaGreatPFixedL
namespace Go.Proofs.YtgjmfljogaanfaaGreat.Pure
open Go.Ev Go.RowKit

def smul (a b : Int) : Int := cl (a * b) (-9223372036854775808) 9223372036854775807

theorem smul_I (a b : Int) : I64 (smul a b) := by simp only [smul, cl]; constructor <;> omega

theorem sizes_mul (a b : Int) : (if a < 0 then -a else a) * (if b < 0 then -b else b) = if (decide (a < 0) == decide (b < 0)) then a * b else -(a * b) := by
  by_cases ha : a < 0 <;> by_cases hb : b < 0 <;> simp [ha, hb, Int.neg_mul, Int.mul_neg]

theorem bitLen_half {n : Nat} (h : n ≠ 0) : bitLen (n / 2) < bitLen n := by
  by_cases h2 : n / 2 ^ 1 = 0
  · have : n = 1 := by omega
    subst this; decide
  · have := bitLen_shift n 1 h2
    have e : n / 2 ^ 1 = n / 2 := by simp
    rw [e] at this; omega

theorem bitLen_le {n k : Nat} (h : n < 2 ^ k) : bitLen n ≤ k := by
  have hs := bitLen_spec n
  by_cases h0 : n = 0
  · subst h0; simp [bitLen]
  · have := hs.2 h0
    apply Nat.le_of_not_lt
    intro hk
    have := Nat.pow_le_pow_right (n := 2) (by omega) (show k ≤ bitLen n - 1 by omega)
    omega

end Go.Proofs.YtgjmfljogaanfaaGreat.Pure
