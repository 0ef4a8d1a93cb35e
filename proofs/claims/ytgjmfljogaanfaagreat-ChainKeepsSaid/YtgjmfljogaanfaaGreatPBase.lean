/- General facts for the plain laws: clamping, signs of bits, counted loops, numbers by their bits. -/
import Derived.Test.YtgjmfljogaanfaaGreatEvQ
import Derived.Laws.MathBits
namespace Go.Proofs.YtgjmfljogaanfaaGreat.Pure
open Go.Ev Go.RowKit

def cl (a lo hi : Int) : Int := max lo (min a hi)

theorem pow_pos' (n : Nat) : (0 : Int) < 2 ^ n := Int.pow_pos (by omega)

abbrev I64 (x : Int) : Prop := -9223372036854775808 ≤ x ∧ x ≤ 9223372036854775807

abbrev U64 (x : Int) : Prop := 0 ≤ x ∧ x ≤ 18446744073709551615

theorem wrapI64_def (x : Int) : IntKind.wrap .i64 x = (x + 9223372036854775808) % 18446744073709551616 - 9223372036854775808 := by
  simp only [IntKind.wrap, IntKind.signed, IntKind.bits]
  simp
  omega

theorem wrapU64_def (x : Int) : IntKind.wrap .u64 x = x % 18446744073709551616 := by
  simp only [IntKind.wrap, IntKind.signed, IntKind.bits]
  simp

theorem wrapI64_I (x : Int) : I64 (IntKind.wrap .i64 x) := by rw [wrapI64_def]; constructor <;> omega

theorem wrapU64_U (x : Int) : U64 (IntKind.wrap .u64 x) := by rw [wrapU64_def]; constructor <;> omega

theorem bv_wrap (v : BitVec 64) : IntKind.wrap .i64 (v.toNat : Int) = v.toInt := by
  rw [wrapI64_def, BitVec.toInt_eq_toNat_cond]
  have := v.isLt
  split <;> omega

theorem bv_neg (v : BitVec 64) : v.toInt < 0 ↔ v.msb = true := by
  rw [BitVec.msb_eq_toInt]
  simp

theorem bv_of {x : Int} (h : I64 x) : (BitVec.ofInt 64 x).msb = decide (x < 0) := by
  rw [BitVec.msb_eq_toInt, BitVec.toInt_ofInt]
  have : x.bmod (2 ^ 64) = x := by
    rw [Int.bmod_def]
    simp only [Nat.reducePow] at *
    split <;> omega
  rw [this]

theorem xor_neg {x y : Int} (hx : I64 x) (hy : I64 y) : bits .xor .i64 x y < 0 ↔ (x < 0) ≠ (y < 0) := by
  simp only [bits]
  rw [show IntKind.bits .i64 = 64 from rfl, bv_wrap, bv_neg, BitVec.msb_xor, bv_of hx, bv_of hy]
  by_cases h1 : x < 0 <;> by_cases h2 : y < 0 <;> simp [h1, h2]

theorem and_neg {x y : Int} (hx : I64 x) (hy : I64 y) : bits .and .i64 x y < 0 ↔ x < 0 ∧ y < 0 := by
  simp only [bits]
  rw [show IntKind.bits .i64 = 64 from rfl, bv_wrap, bv_neg, BitVec.msb_and, bv_of hx, bv_of hy]
  simp

theorem bits_I (op : BinOp) (x y : Int) : I64 (bits op .i64 x y) := wrapI64_I _

def sadd (a b : Int) : Int := cl (a + b) (-9223372036854775808) 9223372036854775807

def ssub (a b : Int) : Int := cl (a - b) (-9223372036854775808) 9223372036854775807

/-- ROUNDS that may be counted: as 'iter_done', with the answer named. -/
theorem iter_some {X Y : Type} {round : (X → Option Y) → X → Option Y} (I : X → Prop) (μ : X → Nat) (y : Y)
    (step : ∀ F x, I x → (∃ x', I x' ∧ μ x' < μ x ∧ round F x = F x') ∨ round F x = some y) (N : Nat) (x : X) (hI : I x) (h : μ x < N) : iter round N x = some y := by
  obtain ⟨z, hz, he⟩ := iter_done I μ (· = y) (fun F x hx => (step F x hx).imp_right fun h => ⟨y, rfl, h⟩) N x hI h
  rw [he, hz]

theorem bift {α : Type} {p : Prop} [Decidable p] (h : p) (a b : α) : (bif decide p then a else b) = a := by simp [h]

theorem biff {α : Type} {p : Prop} [Decidable p] (h : ¬ p) (a b : α) : (bif decide p then a else b) = b := by simp [h]

theorem fdiv_pos {a b : Int} (h : 0 < b) : a.fdiv b = a / b := Int.fdiv_eq_ediv_of_nonneg _ (by omega)

theorem tdiv_nn {a b : Int} (h : 0 ≤ a) : a.tdiv b = a / b := Int.tdiv_eq_ediv_of_nonneg h

theorem tmod_nn {a b : Int} (h : 0 ≤ a) : a.tmod b = a % b := Int.tmod_eq_emod_of_nonneg h

end Go.Proofs.YtgjmfljogaanfaaGreat.Pure
