/-
  No cell of these rows narrows 'for every input' (looked for: loops, veiled, ifaces, maps, wideKeys, modest, calm, conditions, laid).
  DERIVED. THE GIVEN ROWS OF THIS SEAT. 10 by the template 'for every input the law returns true; each argument reads behind the call as it read before'; 0 by the template 'total and deterministic' (their statements: YtakjmminaolfnaaTotals.lean).
  GIVEN WITH THE SEED: the statements are not yours to turn. If you find one false, say at which input.
  Laid BY PROGRAM, IN A SANDBOX (cutbox-rows.mjs): the forced cells as the released guide's own fill.sh prints them over the translation e9bf54c489e6abc8… (all of the seat's roots in one cut). By AI agents, Wed Nov 11 2026. No macro, syntax, notation, axiom, sorry.
-/
import Derived.Test.YtakjmminaolfnaaChecked
import GoSem.Claim
import GoSem.ClaimJoined
import GoSem.ClaimMapViews
import Derived.JoinedTies
import Derived.KernelRfl
namespace Go.Proofs.Ytakjmminaolfnaa
/- THE CELL 'sum', in the pinned program and in every row, IS THE sha256 OF THE DUMP (.gsa) THAT YtakjmminaolfnaaProg.lean LOADS. Nothing in Lean hashes anything: it is a label: what it is worth is what the hold of that sum in a sandbox is worth. -/
noncomputable def Try.pinned : Pinned := { name := "ytakjmminaolfnaa", sum := "e9bf54c489e6abc8c42c7874fa554cbd312d9db803d67b8a3b0f2a81a2f3c7a9", checked := Try.checked }
namespace Rows
def none {H : Type} : Left H := { results := [], args := [] }

/-- 'leatlaw49.CubicCuts': WHATEVER THE INPUT: true; the input reads as it did. -/
def cubicCutsSpec : ChangeSpec := { name := "cubicCuts", fn := fun _ => fun
  | [d1, d2, d3] => { results := [.lit (.bool true)], args := [d1, d2, d3] }
  | _ => none }
def cubicCutsRow : OpenClaim := { program := "ytakjmminaolfnaa", sum := "e9bf54c489e6abc8c42c7874fa554cbd312d9db803d67b8a3b0f2a81a2f3c7a9", func := "leat/leatlaw49.CubicCuts", spec := "cubicCuts", unfollowed := true, recurses := true, apart := false }
def CubicCutsSaid : Prop := cubicCutsRow.holds Try.pinned (OpenSpec.ofChange cubicCutsSpec)

/-- ITS FALSE NEIGHBOUR: 'it returns false'. Refute it at one input. -/
def cubicCutsWrong : ChangeSpec := { name := "cubicCuts", fn := fun _ => fun
  | [d1, d2, d3] => { results := [.lit (.bool false)], args := [d1, d2, d3] }
  | _ => none }
def CubicCutsWrongFalsely : Prop := cubicCutsRow.holds Try.pinned (OpenSpec.ofChange cubicCutsWrong)

/-- 'leatlaw49.CubicRoots': WHATEVER THE INPUT: true; the input reads as it did. -/
def cubicRootsSpec : ChangeSpec := { name := "cubicRoots", fn := fun _ => fun
  | [d1, d2, d3] => { results := [.lit (.bool true)], args := [d1, d2, d3] }
  | _ => none }
def cubicRootsRow : OpenClaim := { program := "ytakjmminaolfnaa", sum := "e9bf54c489e6abc8c42c7874fa554cbd312d9db803d67b8a3b0f2a81a2f3c7a9", func := "leat/leatlaw49.CubicRoots", spec := "cubicRoots", unfollowed := true, recurses := true, apart := false }
def CubicRootsSaid : Prop := cubicRootsRow.holds Try.pinned (OpenSpec.ofChange cubicRootsSpec)

/-- ITS FALSE NEIGHBOUR: 'it returns false'. Refute it at one input. -/
def cubicRootsWrong : ChangeSpec := { name := "cubicRoots", fn := fun _ => fun
  | [d1, d2, d3] => { results := [.lit (.bool false)], args := [d1, d2, d3] }
  | _ => none }
def CubicRootsWrongFalsely : Prop := cubicRootsRow.holds Try.pinned (OpenSpec.ofChange cubicRootsWrong)

/-- 'leatlaw49.CubicHears': WHATEVER THE INPUT: true; the input reads as it did. -/
def cubicHearsSpec : ChangeSpec := { name := "cubicHears", fn := fun _ => fun
  | [d1, d2, d3] => { results := [.lit (.bool true)], args := [d1, d2, d3] }
  | _ => none }
def cubicHearsRow : OpenClaim := { program := "ytakjmminaolfnaa", sum := "e9bf54c489e6abc8c42c7874fa554cbd312d9db803d67b8a3b0f2a81a2f3c7a9", func := "leat/leatlaw49.CubicHears", spec := "cubicHears", unfollowed := true, recurses := true, named := ["math/bits.divideError", "math/bits.overflowError"], apart := false }
def CubicHearsSaid : Prop := cubicHearsRow.holds Try.pinned (OpenSpec.ofChange cubicHearsSpec)

/-- ITS FALSE NEIGHBOUR: 'it returns false'. Refute it at one input. -/
def cubicHearsWrong : ChangeSpec := { name := "cubicHears", fn := fun _ => fun
  | [d1, d2, d3] => { results := [.lit (.bool false)], args := [d1, d2, d3] }
  | _ => none }
def CubicHearsWrongFalsely : Prop := cubicHearsRow.holds Try.pinned (OpenSpec.ofChange cubicHearsWrong)

/-- 'leatlaw49.CubicKeeps': WHATEVER THE INPUT: true; the input reads as it did. -/
def cubicKeepsSpec : ChangeSpec := { name := "cubicKeeps", fn := fun _ => fun
  | [d1, d2, d3] => { results := [.lit (.bool true)], args := [d1, d2, d3] }
  | _ => none }
def cubicKeepsRow : OpenClaim := { program := "ytakjmminaolfnaa", sum := "e9bf54c489e6abc8c42c7874fa554cbd312d9db803d67b8a3b0f2a81a2f3c7a9", func := "leat/leatlaw49.CubicKeeps", spec := "cubicKeeps", unfollowed := true, recurses := true, named := ["math/bits.divideError", "math/bits.overflowError"], apart := false }
def CubicKeepsSaid : Prop := cubicKeepsRow.holds Try.pinned (OpenSpec.ofChange cubicKeepsSpec)

/-- ITS FALSE NEIGHBOUR: 'it returns false'. Refute it at one input. -/
def cubicKeepsWrong : ChangeSpec := { name := "cubicKeeps", fn := fun _ => fun
  | [d1, d2, d3] => { results := [.lit (.bool false)], args := [d1, d2, d3] }
  | _ => none }
def CubicKeepsWrongFalsely : Prop := cubicKeepsRow.holds Try.pinned (OpenSpec.ofChange cubicKeepsWrong)

/-- 'leatlaw37.LinkTakes': WHATEVER THE INPUT: true; the input reads as it did. -/
def linkTakesSpec : ChangeSpec := { name := "linkTakes", fn := fun _ => fun
  | [d1, d2, d3] => { results := [.lit (.bool true)], args := [d1, d2, d3] }
  | _ => none }
def linkTakesRow : OpenClaim := { program := "ytakjmminaolfnaa", sum := "e9bf54c489e6abc8c42c7874fa554cbd312d9db803d67b8a3b0f2a81a2f3c7a9", func := "leat/leatlaw37.LinkTakes", spec := "linkTakes", unfollowed := true, recurses := true, apart := false }
def LinkTakesSaid : Prop := linkTakesRow.holds Try.pinned (OpenSpec.ofChange linkTakesSpec)

/-- ITS FALSE NEIGHBOUR: 'it returns false'. Refute it at one input. -/
def linkTakesWrong : ChangeSpec := { name := "linkTakes", fn := fun _ => fun
  | [d1, d2, d3] => { results := [.lit (.bool false)], args := [d1, d2, d3] }
  | _ => none }
def LinkTakesWrongFalsely : Prop := linkTakesRow.holds Try.pinned (OpenSpec.ofChange linkTakesWrong)

/-- 'leatlaw37.LinkRuns': WHATEVER THE INPUT: true; the input reads as it did. -/
def linkRunsSpec : ChangeSpec := { name := "linkRuns", fn := fun _ => fun
  | [d1, d2] => { results := [.lit (.bool true)], args := [d1, d2] }
  | _ => none }
def linkRunsRow : OpenClaim := { program := "ytakjmminaolfnaa", sum := "e9bf54c489e6abc8c42c7874fa554cbd312d9db803d67b8a3b0f2a81a2f3c7a9", func := "leat/leatlaw37.LinkRuns", spec := "linkRuns", unfollowed := true, recurses := true, apart := false }
def LinkRunsSaid : Prop := linkRunsRow.holds Try.pinned (OpenSpec.ofChange linkRunsSpec)

/-- ITS FALSE NEIGHBOUR: 'it returns false'. Refute it at one input. -/
def linkRunsWrong : ChangeSpec := { name := "linkRuns", fn := fun _ => fun
  | [d1, d2] => { results := [.lit (.bool false)], args := [d1, d2] }
  | _ => none }
def LinkRunsWrongFalsely : Prop := linkRunsRow.holds Try.pinned (OpenSpec.ofChange linkRunsWrong)

/-- 'leatlaw37.LinkPlans': WHATEVER THE INPUT: true; the input reads as it did. -/
def linkPlansSpec : ChangeSpec := { name := "linkPlans", fn := fun _ => fun
  | [d1, d2] => { results := [.lit (.bool true)], args := [d1, d2] }
  | _ => none }
def linkPlansRow : OpenClaim := { program := "ytakjmminaolfnaa", sum := "e9bf54c489e6abc8c42c7874fa554cbd312d9db803d67b8a3b0f2a81a2f3c7a9", func := "leat/leatlaw37.LinkPlans", spec := "linkPlans", unfollowed := true, recurses := true, named := ["math/bits.divideError", "math/bits.overflowError"], apart := false }
def LinkPlansSaid : Prop := linkPlansRow.holds Try.pinned (OpenSpec.ofChange linkPlansSpec)

/-- ITS FALSE NEIGHBOUR: 'it returns false'. Refute it at one input. -/
def linkPlansWrong : ChangeSpec := { name := "linkPlans", fn := fun _ => fun
  | [d1, d2] => { results := [.lit (.bool false)], args := [d1, d2] }
  | _ => none }
def LinkPlansWrongFalsely : Prop := linkPlansRow.holds Try.pinned (OpenSpec.ofChange linkPlansWrong)

/-- 'leatlaw44.MeterSeries': WHATEVER THE INPUT: true; the input reads as it did. -/
def meterSeriesSpec : ChangeSpec := { name := "meterSeries", fn := fun _ => fun
  | [d1, d2, d3] => { results := [.lit (.bool true)], args := [d1, d2, d3] }
  | _ => none }
def meterSeriesRow : OpenClaim := { program := "ytakjmminaolfnaa", sum := "e9bf54c489e6abc8c42c7874fa554cbd312d9db803d67b8a3b0f2a81a2f3c7a9", func := "leat/leatlaw44.MeterSeries", spec := "meterSeries", unfollowed := true, recurses := true, apart := false }
def MeterSeriesSaid : Prop := meterSeriesRow.holds Try.pinned (OpenSpec.ofChange meterSeriesSpec)

/-- ITS FALSE NEIGHBOUR: 'it returns false'. Refute it at one input. -/
def meterSeriesWrong : ChangeSpec := { name := "meterSeries", fn := fun _ => fun
  | [d1, d2, d3] => { results := [.lit (.bool false)], args := [d1, d2, d3] }
  | _ => none }
def MeterSeriesWrongFalsely : Prop := meterSeriesRow.holds Try.pinned (OpenSpec.ofChange meterSeriesWrong)

/-- 'leatlaw44.MeterFlows': WHATEVER THE INPUT: true; the input reads as it did. -/
def meterFlowsSpec : ChangeSpec := { name := "meterFlows", fn := fun _ => fun
  | [d1, d2, d3] => { results := [.lit (.bool true)], args := [d1, d2, d3] }
  | _ => none }
def meterFlowsRow : OpenClaim := { program := "ytakjmminaolfnaa", sum := "e9bf54c489e6abc8c42c7874fa554cbd312d9db803d67b8a3b0f2a81a2f3c7a9", func := "leat/leatlaw44.MeterFlows", spec := "meterFlows", unfollowed := true, recurses := true, apart := false }
def MeterFlowsSaid : Prop := meterFlowsRow.holds Try.pinned (OpenSpec.ofChange meterFlowsSpec)

/-- ITS FALSE NEIGHBOUR: 'it returns false'. Refute it at one input. -/
def meterFlowsWrong : ChangeSpec := { name := "meterFlows", fn := fun _ => fun
  | [d1, d2, d3] => { results := [.lit (.bool false)], args := [d1, d2, d3] }
  | _ => none }
def MeterFlowsWrongFalsely : Prop := meterFlowsRow.holds Try.pinned (OpenSpec.ofChange meterFlowsWrong)

/-- 'leatlaw44.MeterMargins': WHATEVER THE INPUT: true; the input reads as it did. -/
def meterMarginsSpec : ChangeSpec := { name := "meterMargins", fn := fun _ => fun
  | [d1, d2, d3] => { results := [.lit (.bool true)], args := [d1, d2, d3] }
  | _ => none }
def meterMarginsRow : OpenClaim := { program := "ytakjmminaolfnaa", sum := "e9bf54c489e6abc8c42c7874fa554cbd312d9db803d67b8a3b0f2a81a2f3c7a9", func := "leat/leatlaw44.MeterMargins", spec := "meterMargins", unfollowed := true, recurses := true, apart := false }
def MeterMarginsSaid : Prop := meterMarginsRow.holds Try.pinned (OpenSpec.ofChange meterMarginsSpec)

/-- ITS FALSE NEIGHBOUR: 'it returns false'. Refute it at one input. -/
def meterMarginsWrong : ChangeSpec := { name := "meterMargins", fn := fun _ => fun
  | [d1, d2, d3] => { results := [.lit (.bool false)], args := [d1, d2, d3] }
  | _ => none }
def MeterMarginsWrongFalsely : Prop := meterMarginsRow.holds Try.pinned (OpenSpec.ofChange meterMarginsWrong)

/- THE SECOND FORM. 'bulk': how many values and letters a reading holds, each counted each time it is reached (what is shared counts as often as it is met; a slice's spare places count too). A statement '..UptoSaid' is the law's where the arguments, and the package variables that the reading takes, are together of bulk at most 1048576: NARROWER than '..Said'. Prove '..Said' where nothing that the law and all that it calls make is longer than what came in: it says more and counts as full. Else prove '..UptoSaid'. A law counts once. -/
mutual
def uptoBulk {H : Type} : DataW H → Nat
  | .lit (.string bytes) => bytes.length + 1
  | .lit _ => 1
  | .nil => 1
  | .ptr d => uptoBulk d + 1
  | .slice elems spare => uptoBulkAll elems + uptoBulkAll spare + 1
  | .agg parts => uptoBulkAll parts + 1
  | .iface _ d => uptoBulk d + 1
  | .map entries => uptoBulkEntries entries + 1
  | .held _ => 1
def uptoBulkAll {H : Type} : List (DataW H) → Nat
  | [] => 0
  | d :: r => uptoBulk d + uptoBulkAll r
def uptoBulkEntries {H : Type} : List (Lit × DataW H) → Nat
  | [] => 0
  | x :: r => uptoBulkEntry x + uptoBulkEntries r
def uptoBulkEntry {H : Type} : Lit × DataW H → Nat
  | (.string bytes, d) => bytes.length + uptoBulk d + 1
  | (_, d) => uptoBulk d + 1
 end
def uptoSmall : (H : Type) → List (DataW H) → Bool := fun _ ds => decide (uptoBulkAll ds ≤ 1048576)
def OpenSpec.upto (s : _root_.Go.ChangeSpec) : _root_.Go.OpenSpec := { _root_.Go.OpenSpec.ofChange s with cond := some uptoSmall }

/-- 'leatlaw49.CubicCuts', WHERE WHAT IT READS IS OF BULK AT MOST 1048576: true; the input reads as it did. -/
def cubicCutsUptoRow : OpenClaim := { program := "ytakjmminaolfnaa", sum := "e9bf54c489e6abc8c42c7874fa554cbd312d9db803d67b8a3b0f2a81a2f3c7a9", func := "leat/leatlaw49.CubicCuts", spec := "cubicCuts", unfollowed := true, recurses := true, apart := false, narrowed := true }
def CubicCutsUptoSaid : Prop := cubicCutsUptoRow.holds Try.pinned (OpenSpec.upto cubicCutsSpec)

/-- 'leatlaw49.CubicRoots', WHERE WHAT IT READS IS OF BULK AT MOST 1048576: true; the input reads as it did. -/
def cubicRootsUptoRow : OpenClaim := { program := "ytakjmminaolfnaa", sum := "e9bf54c489e6abc8c42c7874fa554cbd312d9db803d67b8a3b0f2a81a2f3c7a9", func := "leat/leatlaw49.CubicRoots", spec := "cubicRoots", unfollowed := true, recurses := true, apart := false, narrowed := true }
def CubicRootsUptoSaid : Prop := cubicRootsUptoRow.holds Try.pinned (OpenSpec.upto cubicRootsSpec)

/-- 'leatlaw49.CubicHears', WHERE WHAT IT READS IS OF BULK AT MOST 1048576: true; the input reads as it did. -/
def cubicHearsUptoRow : OpenClaim := { program := "ytakjmminaolfnaa", sum := "e9bf54c489e6abc8c42c7874fa554cbd312d9db803d67b8a3b0f2a81a2f3c7a9", func := "leat/leatlaw49.CubicHears", spec := "cubicHears", unfollowed := true, recurses := true, named := ["math/bits.divideError", "math/bits.overflowError"], apart := false, narrowed := true }
def CubicHearsUptoSaid : Prop := cubicHearsUptoRow.holds Try.pinned (OpenSpec.upto cubicHearsSpec)

/-- 'leatlaw49.CubicKeeps', WHERE WHAT IT READS IS OF BULK AT MOST 1048576: true; the input reads as it did. -/
def cubicKeepsUptoRow : OpenClaim := { program := "ytakjmminaolfnaa", sum := "e9bf54c489e6abc8c42c7874fa554cbd312d9db803d67b8a3b0f2a81a2f3c7a9", func := "leat/leatlaw49.CubicKeeps", spec := "cubicKeeps", unfollowed := true, recurses := true, named := ["math/bits.divideError", "math/bits.overflowError"], apart := false, narrowed := true }
def CubicKeepsUptoSaid : Prop := cubicKeepsUptoRow.holds Try.pinned (OpenSpec.upto cubicKeepsSpec)

/-- 'leatlaw37.LinkTakes', WHERE WHAT IT READS IS OF BULK AT MOST 1048576: true; the input reads as it did. -/
def linkTakesUptoRow : OpenClaim := { program := "ytakjmminaolfnaa", sum := "e9bf54c489e6abc8c42c7874fa554cbd312d9db803d67b8a3b0f2a81a2f3c7a9", func := "leat/leatlaw37.LinkTakes", spec := "linkTakes", unfollowed := true, recurses := true, apart := false, narrowed := true }
def LinkTakesUptoSaid : Prop := linkTakesUptoRow.holds Try.pinned (OpenSpec.upto linkTakesSpec)

/-- 'leatlaw37.LinkRuns', WHERE WHAT IT READS IS OF BULK AT MOST 1048576: true; the input reads as it did. -/
def linkRunsUptoRow : OpenClaim := { program := "ytakjmminaolfnaa", sum := "e9bf54c489e6abc8c42c7874fa554cbd312d9db803d67b8a3b0f2a81a2f3c7a9", func := "leat/leatlaw37.LinkRuns", spec := "linkRuns", unfollowed := true, recurses := true, apart := false, narrowed := true }
def LinkRunsUptoSaid : Prop := linkRunsUptoRow.holds Try.pinned (OpenSpec.upto linkRunsSpec)

/-- 'leatlaw37.LinkPlans', WHERE WHAT IT READS IS OF BULK AT MOST 1048576: true; the input reads as it did. -/
def linkPlansUptoRow : OpenClaim := { program := "ytakjmminaolfnaa", sum := "e9bf54c489e6abc8c42c7874fa554cbd312d9db803d67b8a3b0f2a81a2f3c7a9", func := "leat/leatlaw37.LinkPlans", spec := "linkPlans", unfollowed := true, recurses := true, named := ["math/bits.divideError", "math/bits.overflowError"], apart := false, narrowed := true }
def LinkPlansUptoSaid : Prop := linkPlansUptoRow.holds Try.pinned (OpenSpec.upto linkPlansSpec)

/-- 'leatlaw44.MeterSeries', WHERE WHAT IT READS IS OF BULK AT MOST 1048576: true; the input reads as it did. -/
def meterSeriesUptoRow : OpenClaim := { program := "ytakjmminaolfnaa", sum := "e9bf54c489e6abc8c42c7874fa554cbd312d9db803d67b8a3b0f2a81a2f3c7a9", func := "leat/leatlaw44.MeterSeries", spec := "meterSeries", unfollowed := true, recurses := true, apart := false, narrowed := true }
def MeterSeriesUptoSaid : Prop := meterSeriesUptoRow.holds Try.pinned (OpenSpec.upto meterSeriesSpec)

/-- 'leatlaw44.MeterFlows', WHERE WHAT IT READS IS OF BULK AT MOST 1048576: true; the input reads as it did. -/
def meterFlowsUptoRow : OpenClaim := { program := "ytakjmminaolfnaa", sum := "e9bf54c489e6abc8c42c7874fa554cbd312d9db803d67b8a3b0f2a81a2f3c7a9", func := "leat/leatlaw44.MeterFlows", spec := "meterFlows", unfollowed := true, recurses := true, apart := false, narrowed := true }
def MeterFlowsUptoSaid : Prop := meterFlowsUptoRow.holds Try.pinned (OpenSpec.upto meterFlowsSpec)

/-- 'leatlaw44.MeterMargins', WHERE WHAT IT READS IS OF BULK AT MOST 1048576: true; the input reads as it did. -/
def meterMarginsUptoRow : OpenClaim := { program := "ytakjmminaolfnaa", sum := "e9bf54c489e6abc8c42c7874fa554cbd312d9db803d67b8a3b0f2a81a2f3c7a9", func := "leat/leatlaw44.MeterMargins", spec := "meterMargins", unfollowed := true, recurses := true, apart := false, narrowed := true }
def MeterMarginsUptoSaid : Prop := meterMarginsUptoRow.holds Try.pinned (OpenSpec.upto meterMarginsSpec)

end Rows
end Go.Proofs.Ytakjmminaolfnaa
