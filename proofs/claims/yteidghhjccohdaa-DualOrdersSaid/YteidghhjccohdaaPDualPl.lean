/- DualPlays as the row wants it. -/
import Derived.Test.YteidghhjccohdaaPDualQ
namespace Go.Proofs.Yteidghhjccohdaa.Pure
open Go.Ev Go.RowKit

theorem du32_range {x : Int} (h : SK.wf (.int .u32) x) : 0 ≤ x ∧ x ≤ 4294967295 := by
  simp only [SK.wf, IntKind.min, IntKind.max, IntKind.signed, IntKind.bits] at h
  simp at h
  omega

end Go.Proofs.Yteidghhjccohdaa.Pure
