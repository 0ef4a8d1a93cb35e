/- DualPlays as the row wants it. -/
import Derived.Test.YteidghhjccohdaaPDualQ
namespace Go.Proofs.Yteidghhjccohdaa.Pure
open Go.Ev Go.RowKit

theorem du32_range {x : Int} (h : SK.wf (.int .u32) x) : 0 ≤ x ∧ x ≤ 4294967295 := by
  simp only [SK.wf, IntKind.min, IntKind.max, IntKind.signed, IntKind.bits] at h
  simp at h
  omega

theorem DualPlays (x : RT [.agg [.int .i64, .int .i64, .int .i64, .int .i64, .int .i64, .int .i64, .int .i64, .int .i64], .row 91 [.int .u32], .row 31 [.int .i64, .int .i64, .int .i64, .int .i64, .int .i64, .int .i64, .int .i64]]) (h : RT.wf _ x) : ∃ N, uncR [.agg [.int .i64, .int .i64, .int .i64, .int .i64, .int .i64, .int .i64, .int .i64, .int .i64], .row 91 [.int .u32], .row 31 [.int .i64, .int .i64, .int .i64, .int .i64, .int .i64, .int .i64, .int .i64]] (W.leatlaw36_DualPlays N) x = some true := by
  obtain ⟨l, d, acts⟩ := x
  exact ⟨3000, DualPlays_i l d acts fun z hz => du32_range (h.2.1.2 z hz)⟩

end Go.Proofs.Yteidghhjccohdaa.Pure
