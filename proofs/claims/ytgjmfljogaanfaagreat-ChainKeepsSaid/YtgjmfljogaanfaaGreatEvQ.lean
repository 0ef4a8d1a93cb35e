/- Small facts for the pure proofs: wrapping, rounds of loops, answers. -/
import Derived.Test.YtgjmfljogaanfaaGreatEvP
namespace Go.Ev

theorem wrapI64 {x : Int} (h1 : -9223372036854775808 ≤ x) (h2 : x ≤ 9223372036854775807) : IntKind.wrap .i64 x = x := by
  simp only [IntKind.wrap, IntKind.signed, IntKind.bits]
  simp
  omega
theorem wrapU64 {x : Int} (h1 : 0 ≤ x) (h2 : x ≤ 18446744073709551615) : IntKind.wrap .u64 x = x := by
  simp only [IntKind.wrap, IntKind.signed, IntKind.bits]
  simp
  omega
theorem wrapU32 {x : Int} (h1 : 0 ≤ x) (h2 : x ≤ 4294967295) : IntKind.wrap .u32 x = x := by
  simp only [IntKind.wrap, IntKind.signed, IntKind.bits]
  simp
  omega
theorem wrapU8 {x : Int} (h1 : 0 ≤ x) (h2 : x ≤ 255) : IntKind.wrap .u8 x = x := by
  simp only [IntKind.wrap, IntKind.signed, IntKind.bits]
  simp
  omega
theorem i64_range {x : Int} (h : SK.wf (.int .i64) x) : -9223372036854775808 ≤ x ∧ x ≤ 9223372036854775807 := by
  simp only [SK.wf, IntKind.min, IntKind.max, IntKind.signed, IntKind.bits] at h
  simp at h
  omega
theorem u64_range {x : Int} (h : SK.wf (.int .u64) x) : 0 ≤ x ∧ x ≤ 18446744073709551615 := by
  simp only [SK.wf, IntKind.min, IntKind.max, IntKind.signed, IntKind.bits] at h
  simp at h
  omega
theorem u32_range {x : Int} (h : SK.wf (.int .u32) x) : 0 ≤ x ∧ x ≤ 4294967295 := by
  simp only [SK.wf, IntKind.min, IntKind.max, IntKind.signed, IntKind.bits] at h
  simp at h
  omega
theorem u8_range {x : Int} (h : SK.wf (.int .u8) x) : 0 ≤ x ∧ x ≤ 255 := by
  simp only [SK.wf, IntKind.min, IntKind.max, IntKind.signed, IntKind.bits] at h
  simp at h
  omega

/-- ROUNDS: each round goes on to a state of the same kind that is less far from the end, or ends well. -/
theorem iter_done {X Y : Type} {round : (X → Option Y) → X → Option Y} (I : X → Prop) (μ : X → Nat) (Q : Y → Prop)
    (step : ∀ F x, I x → (∃ x', I x' ∧ μ x' < μ x ∧ round F x = F x') ∨ ∃ y, Q y ∧ round F x = some y) : ∀ (N : Nat) (x : X), I x → μ x < N → ∃ y, Q y ∧ iter round N x = some y
  | 0, _, _, h => absurd h (Nat.not_lt_zero _)
  | n + 1, x, hI, h => by
    rcases step (iter round n) x hI with ⟨x', h1, h2, h3⟩ | ⟨y, h1, h2⟩
    · obtain ⟨y, h4, h5⟩ := iter_done I μ Q step n x' h1 (by omega)
      exact ⟨y, h4, h3.trans h5⟩
    · exact ⟨y, h1, h2⟩
theorem bifd {α : Type} {p : Prop} [Decidable p] (a b : α) : (bif decide p then a else b) = if p then a else b := by
  by_cases h : p <;> simp [h]
def imn (x y : Int) : Int := if y < x then y else x
def imx (x y : Int) : Int := if y > x then y else x
theorem imn_eq (x y : Int) : imn x y = min x y := by unfold imn; split <;> omega
theorem imx_eq (x y : Int) : imx x y = max x y := by unfold imx; split <;> omega
end Go.Ev
