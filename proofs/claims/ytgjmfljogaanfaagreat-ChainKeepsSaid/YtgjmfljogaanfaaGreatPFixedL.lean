/- Shares in whole numbers: parts, products, roots; the laws. -/
import Derived.Test.YtgjmfljogaanfaaGreatPFixed
namespace Go.Proofs.YtgjmfljogaanfaaGreat.Pure
open Go.Ev Go.RowKit

theorem cls20 (f : Int) : 0 ≤ cl f 0 1048576 ∧ cl f 0 1048576 ≤ 1048576 := by simp only [cl]; omega

/-- A share of a number. -/
def part (x f : Int) : Int := x * cl f 0 1048576 / 1048576

theorem part_arith {x F : Int} : x / 1048576 * F + x % 1048576 * F / 1048576 = x * F / 1048576 := by
  have e := Int.emod_add_mul_ediv x 1048576
  have : x * F = x % 1048576 * F + 1048576 * (x / 1048576 * F) := by
    generalize x / 1048576 = q at *; generalize x % 1048576 = r at *; rw [← e]; grind
  rw [this, Int.add_mul_ediv_left _ _ (by omega)]; omega

theorem part_I {x : Int} (f : Int) (_ : I64 x) : (0 ≤ x → 0 ≤ part x f ∧ part x f ≤ x) ∧ (x ≤ 0 → x ≤ part x f ∧ part x f ≤ 0) := by
  have h := cls20 f
  simp only [part]
  constructor
  · intro h0
    have m := Int.mul_le_mul_of_nonneg_left h.2 h0
    have n := Int.mul_nonneg h0 h.1
    refine ⟨Int.ediv_nonneg n (by omega), ?_⟩
    have := Int.ediv_le_ediv (show (0 : Int) < 1048576 by omega) m
    rwa [Int.mul_ediv_cancel _ (by omega)] at this
  · intro h0
    have m := Int.mul_le_mul_of_nonpos_left h0 h.2
    have n := Int.mul_nonpos_of_nonpos_of_nonneg h0 h.1
    refine ⟨Int.le_ediv_of_mul_le (by omega) m, ?_⟩
    have := Int.ediv_le_ediv (show (0 : Int) < 1048576 by omega) n
    rwa [Int.zero_ediv] at this

theorem part_I64 {x : Int} (f : Int) (hx : I64 x) : I64 (part x f) := by
  have h := part_I f hx
  by_cases h0 : 0 ≤ x
  · have := h.1 h0; exact ⟨by omega, by omega⟩
  · have := h.2 (by omega); exact ⟨by omega, by omega⟩

theorem part_mono {x f g : Int} (hx : 0 ≤ x) (h : f ≤ g) : part x f ≤ part x g := by
  have : cl f 0 1048576 ≤ cl g 0 1048576 := by simp only [cl]; omega
  exact Int.ediv_le_ediv (by omega) (Int.mul_le_mul_of_nonneg_left this hx)

theorem toward_between {x y : Int} (n : Int) (hx : I64 x) (hy : I64 y) : min x y ≤ toward x y n ∧ toward x y n ≤ max x y := by
  have hp := pow_pos' (cl n 0 62).toNat
  simp only [toward]
  generalize (2 : Int) ^ (cl n 0 62).toNat = P at *
  have hd : (0 ≤ ssub y x → 0 ≤ ssub y x / P ∧ ssub y x / P ≤ ssub y x) ∧ (ssub y x ≤ 0 → ssub y x ≤ ssub y x / P ∧ ssub y x / P ≤ 0) := by
    constructor
    · intro h; exact ⟨Int.ediv_nonneg h (by omega), Int.ediv_le_self P h⟩
    · intro h
      refine ⟨Int.le_ediv_of_mul_le hp ?_, ?_⟩
      · have := Int.mul_le_mul_of_nonpos_left h (show 1 ≤ P by omega); omega
      · have := Int.ediv_le_ediv hp h; rwa [Int.zero_ediv] at this
  simp only [sadd, ssub, cl] at *
  omega

/-- A root: its square is not above the number, that of one more is. -/
def IsRoot (r V : Int) : Prop := 0 ≤ r ∧ r * r ≤ V ∧ V < (r + 1) * (r + 1)

theorem IsRoot.uniq {r s V : Int} (h : IsRoot r V) (g : IsRoot s V) : r = s := by
  obtain ⟨h0, h1, h2⟩ := h
  obtain ⟨g0, g1, g2⟩ := g
  rcases Int.lt_trichotomy r s with c | c | c
  · have := Int.mul_le_mul (show r + 1 ≤ s by omega) (show r + 1 ≤ s by omega) (by omega) g0; omega
  · exact c
  · have := Int.mul_le_mul (show s + 1 ≤ r by omega) (show s + 1 ≤ r by omega) (by omega) h0; omega

theorem or_bit {k : Int} (i : Nat) (hk : 0 ≤ k) (hi : i ≤ 63) (hd : k * 2 ^ (i + 1) < 18446744073709551616) : bits .or .u64 (k * 2 ^ (i + 1)) (2 ^ i) = k * 2 ^ (i + 1) + 2 ^ i :=
  or_add (i + 1) hk (Int.le_of_lt (pow_pos' i)) (by rw [Int.pow_succ]; have := pow_pos' i; omega) (by omega) hd

end Go.Proofs.YtgjmfljogaanfaaGreat.Pure
