/-
  No cell of these rows narrows 'for every input' (looked for: loops, veiled, ifaces, maps, wideKeys, modest, calm, conditions, laid).
  DERIVED. THE GIVEN ROWS OF THIS SEAT. 6 by the template 'for every input the law returns true; each argument reads behind the call as it read before'; 0 by the template 'total and deterministic' (their statements: YtlnbhofiihkpoaaRRRTotals.lean).
  GIVEN WITH THE SEED: the statements are not yours to turn. If you find one false, say at which input.
  Laid BY PROGRAM, IN A SANDBOX (cutbox-rows.mjs): the forced cells as the released guide's own fill.sh prints them over the translation db0dd5a910cb8253… (all of the seat's roots in one cut). By AI agents, Wed Nov 11 2026. No macro, syntax, notation, axiom, sorry.
-/
import Derived.Test.YtlnbhofiihkpoaaRRRChecked
import GoSem.Claim
import GoSem.ClaimJoined
import GoSem.ClaimMapViews
import Derived.JoinedTies
import Derived.KernelRfl
namespace Go.Proofs.YtlnbhofiihkpoaaRRR
/- THE CELL 'sum', in the pinned program and in every row, IS THE sha256 OF THE DUMP (.gsa) THAT YtlnbhofiihkpoaaRRRProg.lean LOADS. Nothing in Lean hashes anything: it is a label: what it is worth is what the hold of that sum in a sandbox is worth. -/
noncomputable def Try.pinned : Pinned := { name := "ytlnbhofiihkpoaarrr", sum := "db0dd5a910cb82539ca6863c3179aa3d2760fd70e7e9c67ef7f5b2cd2fbbc360", checked := Try.checked }
namespace Rows
def none {H : Type} : Left H := { results := [], args := [] }

/-- 'leatlaw25.AlphaTakes': WHATEVER THE INPUT: true; the input reads as it did. -/
def alphaTakesSpec : ChangeSpec := { name := "alphaTakes", fn := fun _ => fun
  | [d1, d2, d3] => { results := [.lit (.bool true)], args := [d1, d2, d3] }
  | _ => none }
def alphaTakesRow : OpenClaim := { program := "ytlnbhofiihkpoaarrr", sum := "db0dd5a910cb82539ca6863c3179aa3d2760fd70e7e9c67ef7f5b2cd2fbbc360", func := "leat/leatlaw25.AlphaTakes", spec := "alphaTakes", unfollowed := true, recurses := true, named := ["math/bits.divideError", "math/bits.overflowError"], apart := false }
def AlphaTakesSaid : Prop := alphaTakesRow.holds Try.pinned (OpenSpec.ofChange alphaTakesSpec)

/-- ITS FALSE NEIGHBOUR: 'it returns false'. Refute it at one input. -/
def alphaTakesWrong : ChangeSpec := { name := "alphaTakes", fn := fun _ => fun
  | [d1, d2, d3] => { results := [.lit (.bool false)], args := [d1, d2, d3] }
  | _ => none }
def AlphaTakesWrongFalsely : Prop := alphaTakesRow.holds Try.pinned (OpenSpec.ofChange alphaTakesWrong)

/-- 'leatlaw25.AlphaKeeps': WHATEVER THE INPUT: true; the input reads as it did. -/
def alphaKeepsSpec : ChangeSpec := { name := "alphaKeeps", fn := fun _ => fun
  | [d1, d2] => { results := [.lit (.bool true)], args := [d1, d2] }
  | _ => none }
def alphaKeepsRow : OpenClaim := { program := "ytlnbhofiihkpoaarrr", sum := "db0dd5a910cb82539ca6863c3179aa3d2760fd70e7e9c67ef7f5b2cd2fbbc360", func := "leat/leatlaw25.AlphaKeeps", spec := "alphaKeeps", unfollowed := true, recurses := true, named := ["math/bits.divideError", "math/bits.overflowError"], apart := false }
def AlphaKeepsSaid : Prop := alphaKeepsRow.holds Try.pinned (OpenSpec.ofChange alphaKeepsSpec)

/-- ITS FALSE NEIGHBOUR: 'it returns false'. Refute it at one input. -/
def alphaKeepsWrong : ChangeSpec := { name := "alphaKeeps", fn := fun _ => fun
  | [d1, d2] => { results := [.lit (.bool false)], args := [d1, d2] }
  | _ => none }
def AlphaKeepsWrongFalsely : Prop := alphaKeepsRow.holds Try.pinned (OpenSpec.ofChange alphaKeepsWrong)

/-- 'leatlaw25.AlphaSettles': WHATEVER THE INPUT: true; the input reads as it did. -/
def alphaSettlesSpec : ChangeSpec := { name := "alphaSettles", fn := fun _ => fun
  | [d] => { results := [.lit (.bool true)], args := [d] }
  | _ => none }
def alphaSettlesRow : OpenClaim := { program := "ytlnbhofiihkpoaarrr", sum := "db0dd5a910cb82539ca6863c3179aa3d2760fd70e7e9c67ef7f5b2cd2fbbc360", func := "leat/leatlaw25.AlphaSettles", spec := "alphaSettles", unfollowed := true, recurses := true, named := ["math/bits.divideError", "math/bits.overflowError"], apart := false }
def AlphaSettlesSaid : Prop := alphaSettlesRow.holds Try.pinned (OpenSpec.ofChange alphaSettlesSpec)

/-- ITS FALSE NEIGHBOUR: 'it returns false'. Refute it at one input. -/
def alphaSettlesWrong : ChangeSpec := { name := "alphaSettles", fn := fun _ => fun
  | [d] => { results := [.lit (.bool false)], args := [d] }
  | _ => none }
def AlphaSettlesWrongFalsely : Prop := alphaSettlesRow.holds Try.pinned (OpenSpec.ofChange alphaSettlesWrong)

/-- 'leatlaw26.PragueScales': WHATEVER THE INPUT: true; the input reads as it did. -/
def pragueScalesSpec : ChangeSpec := { name := "pragueScales", fn := fun _ => fun
  | [d1, d2, d3] => { results := [.lit (.bool true)], args := [d1, d2, d3] }
  | _ => none }
def pragueScalesRow : OpenClaim := { program := "ytlnbhofiihkpoaarrr", sum := "db0dd5a910cb82539ca6863c3179aa3d2760fd70e7e9c67ef7f5b2cd2fbbc360", func := "leat/leatlaw26.PragueScales", spec := "pragueScales", unfollowed := true, recurses := true, named := ["math/bits.divideError", "math/bits.overflowError"], apart := false }
def PragueScalesSaid : Prop := pragueScalesRow.holds Try.pinned (OpenSpec.ofChange pragueScalesSpec)

/-- ITS FALSE NEIGHBOUR: 'it returns false'. Refute it at one input. -/
def pragueScalesWrong : ChangeSpec := { name := "pragueScales", fn := fun _ => fun
  | [d1, d2, d3] => { results := [.lit (.bool false)], args := [d1, d2, d3] }
  | _ => none }
def PragueScalesWrongFalsely : Prop := pragueScalesRow.holds Try.pinned (OpenSpec.ofChange pragueScalesWrong)

/-- 'leatlaw26.PragueBetween': WHATEVER THE INPUT: true; the input reads as it did. -/
def pragueBetweenSpec : ChangeSpec := { name := "pragueBetween", fn := fun _ => fun
  | [d1, d2, d3] => { results := [.lit (.bool true)], args := [d1, d2, d3] }
  | _ => none }
def pragueBetweenRow : OpenClaim := { program := "ytlnbhofiihkpoaarrr", sum := "db0dd5a910cb82539ca6863c3179aa3d2760fd70e7e9c67ef7f5b2cd2fbbc360", func := "leat/leatlaw26.PragueBetween", spec := "pragueBetween", unfollowed := true, recurses := true, named := ["math/bits.divideError", "math/bits.overflowError"], apart := false }
def PragueBetweenSaid : Prop := pragueBetweenRow.holds Try.pinned (OpenSpec.ofChange pragueBetweenSpec)

/-- ITS FALSE NEIGHBOUR: 'it returns false'. Refute it at one input. -/
def pragueBetweenWrong : ChangeSpec := { name := "pragueBetween", fn := fun _ => fun
  | [d1, d2, d3] => { results := [.lit (.bool false)], args := [d1, d2, d3] }
  | _ => none }
def PragueBetweenWrongFalsely : Prop := pragueBetweenRow.holds Try.pinned (OpenSpec.ofChange pragueBetweenWrong)

/-- 'leatlaw26.PragueGrows': WHATEVER THE INPUT: true; the input reads as it did. -/
def pragueGrowsSpec : ChangeSpec := { name := "pragueGrows", fn := fun _ => fun
  | [d1, d2, d3] => { results := [.lit (.bool true)], args := [d1, d2, d3] }
  | _ => none }
def pragueGrowsRow : OpenClaim := { program := "ytlnbhofiihkpoaarrr", sum := "db0dd5a910cb82539ca6863c3179aa3d2760fd70e7e9c67ef7f5b2cd2fbbc360", func := "leat/leatlaw26.PragueGrows", spec := "pragueGrows", unfollowed := true, recurses := true, named := ["math/bits.divideError", "math/bits.overflowError"], apart := false }
def PragueGrowsSaid : Prop := pragueGrowsRow.holds Try.pinned (OpenSpec.ofChange pragueGrowsSpec)

/-- ITS FALSE NEIGHBOUR: 'it returns false'. Refute it at one input. -/
def pragueGrowsWrong : ChangeSpec := { name := "pragueGrows", fn := fun _ => fun
  | [d1, d2, d3] => { results := [.lit (.bool false)], args := [d1, d2, d3] }
  | _ => none }
def PragueGrowsWrongFalsely : Prop := pragueGrowsRow.holds Try.pinned (OpenSpec.ofChange pragueGrowsWrong)

/- THE SECOND FORM. 'bulk': how many values and letters a reading holds, each counted each time it is reached (what is shared counts as often as it is met; a slice's spare places count too). A statement '..UptoSaid' is the law's where the arguments, and the package variables that the reading takes, are together of bulk at most 1048576: NARROWER than '..Said'. Prove '..Said' where nothing that the law and all that it calls make is longer than what came in: it says more and counts as full. Else prove '..UptoSaid'. A law counts once. -/
mutual
def uptoBulk {H : Type} : DataW H → Nat
  | .lit (.string bytes) => bytes.length + 1
  | .lit _ => 1
  | .nil => 1
  | .ptr d => uptoBulk d + 1
  | .slice elems spare => uptoBulkAll elems + uptoBulkAll spare + 1
  | .agg parts => uptoBulkAll parts + 1
  | .iface _ d => uptoBulk d + 1
  | .map entries => uptoBulkEntries entries + 1
  | .held _ => 1
def uptoBulkAll {H : Type} : List (DataW H) → Nat
  | [] => 0
  | d :: r => uptoBulk d + uptoBulkAll r
def uptoBulkEntries {H : Type} : List (Lit × DataW H) → Nat
  | [] => 0
  | x :: r => uptoBulkEntry x + uptoBulkEntries r
def uptoBulkEntry {H : Type} : Lit × DataW H → Nat
  | (.string bytes, d) => bytes.length + uptoBulk d + 1
  | (_, d) => uptoBulk d + 1
 end
def uptoSmall : (H : Type) → List (DataW H) → Bool := fun _ ds => decide (uptoBulkAll ds ≤ 1048576)
def OpenSpec.upto (s : _root_.Go.ChangeSpec) : _root_.Go.OpenSpec := { _root_.Go.OpenSpec.ofChange s with cond := some uptoSmall }

/-- 'leatlaw25.AlphaTakes', WHERE WHAT IT READS IS OF BULK AT MOST 1048576: true; the input reads as it did. -/
def alphaTakesUptoRow : OpenClaim := { program := "ytlnbhofiihkpoaarrr", sum := "db0dd5a910cb82539ca6863c3179aa3d2760fd70e7e9c67ef7f5b2cd2fbbc360", func := "leat/leatlaw25.AlphaTakes", spec := "alphaTakes", unfollowed := true, recurses := true, named := ["math/bits.divideError", "math/bits.overflowError"], apart := false, narrowed := true }
def AlphaTakesUptoSaid : Prop := alphaTakesUptoRow.holds Try.pinned (OpenSpec.upto alphaTakesSpec)

/-- 'leatlaw25.AlphaKeeps', WHERE WHAT IT READS IS OF BULK AT MOST 1048576: true; the input reads as it did. -/
def alphaKeepsUptoRow : OpenClaim := { program := "ytlnbhofiihkpoaarrr", sum := "db0dd5a910cb82539ca6863c3179aa3d2760fd70e7e9c67ef7f5b2cd2fbbc360", func := "leat/leatlaw25.AlphaKeeps", spec := "alphaKeeps", unfollowed := true, recurses := true, named := ["math/bits.divideError", "math/bits.overflowError"], apart := false, narrowed := true }
def AlphaKeepsUptoSaid : Prop := alphaKeepsUptoRow.holds Try.pinned (OpenSpec.upto alphaKeepsSpec)

/-- 'leatlaw25.AlphaSettles', WHERE WHAT IT READS IS OF BULK AT MOST 1048576: true; the input reads as it did. -/
def alphaSettlesUptoRow : OpenClaim := { program := "ytlnbhofiihkpoaarrr", sum := "db0dd5a910cb82539ca6863c3179aa3d2760fd70e7e9c67ef7f5b2cd2fbbc360", func := "leat/leatlaw25.AlphaSettles", spec := "alphaSettles", unfollowed := true, recurses := true, named := ["math/bits.divideError", "math/bits.overflowError"], apart := false, narrowed := true }
def AlphaSettlesUptoSaid : Prop := alphaSettlesUptoRow.holds Try.pinned (OpenSpec.upto alphaSettlesSpec)

/-- 'leatlaw26.PragueScales', WHERE WHAT IT READS IS OF BULK AT MOST 1048576: true; the input reads as it did. -/
def pragueScalesUptoRow : OpenClaim := { program := "ytlnbhofiihkpoaarrr", sum := "db0dd5a910cb82539ca6863c3179aa3d2760fd70e7e9c67ef7f5b2cd2fbbc360", func := "leat/leatlaw26.PragueScales", spec := "pragueScales", unfollowed := true, recurses := true, named := ["math/bits.divideError", "math/bits.overflowError"], apart := false, narrowed := true }
def PragueScalesUptoSaid : Prop := pragueScalesUptoRow.holds Try.pinned (OpenSpec.upto pragueScalesSpec)

/-- 'leatlaw26.PragueBetween', WHERE WHAT IT READS IS OF BULK AT MOST 1048576: true; the input reads as it did. -/
def pragueBetweenUptoRow : OpenClaim := { program := "ytlnbhofiihkpoaarrr", sum := "db0dd5a910cb82539ca6863c3179aa3d2760fd70e7e9c67ef7f5b2cd2fbbc360", func := "leat/leatlaw26.PragueBetween", spec := "pragueBetween", unfollowed := true, recurses := true, named := ["math/bits.divideError", "math/bits.overflowError"], apart := false, narrowed := true }
def PragueBetweenUptoSaid : Prop := pragueBetweenUptoRow.holds Try.pinned (OpenSpec.upto pragueBetweenSpec)

/-- 'leatlaw26.PragueGrows', WHERE WHAT IT READS IS OF BULK AT MOST 1048576: true; the input reads as it did. -/
def pragueGrowsUptoRow : OpenClaim := { program := "ytlnbhofiihkpoaarrr", sum := "db0dd5a910cb82539ca6863c3179aa3d2760fd70e7e9c67ef7f5b2cd2fbbc360", func := "leat/leatlaw26.PragueGrows", spec := "pragueGrows", unfollowed := true, recurses := true, named := ["math/bits.divideError", "math/bits.overflowError"], apart := false, narrowed := true }
def PragueGrowsUptoSaid : Prop := pragueGrowsUptoRow.holds Try.pinned (OpenSpec.upto pragueGrowsSpec)

end Rows
end Go.Proofs.YtlnbhofiihkpoaaRRR
