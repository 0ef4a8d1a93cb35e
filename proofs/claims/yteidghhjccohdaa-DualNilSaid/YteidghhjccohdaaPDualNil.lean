/- DualNil, as plain Lean: what is nil answers so by itself; the example is run. -/
import Derived.Test.YteidghhjccohdaaW0
import Derived.KernelRfl
namespace Go.Proofs.Yteidghhjccohdaa.Pure
open Go.Ev Go.RowKit

theorem dual_works : W.leatlaw36_works 300 = some true := by kernel_rfl

theorem DualNil (x : RT [.sc (.int .i64), .agg [.int .i64, .int .i64, .int .i64, .int .i64, .int .i64]]) (_ : RT.wf _ x) : ∃ N, uncR [.sc (.int .i64), .agg [.int .i64, .int .i64, .int .i64, .int .i64, .int .i64]] (W.leatlaw36_DualNil N) x = some true := by
  have key : ∀ N, uncR [.sc (.int .i64), .agg [.int .i64, .int .i64, .int .i64, .int .i64, .int .i64]] (W.leatlaw36_DualNil N) x = (W.leatlaw36_works N).bind fun r0 => some r0 := fun _ => rfl
  exact ⟨300, by rw [key, dual_works]; rfl⟩

end Go.Proofs.Yteidghhjccohdaa.Pure
