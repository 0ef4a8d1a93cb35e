/-
  No cell of these rows narrows 'for every input' (looked for: loops, veiled, ifaces, maps, wideKeys, modest, calm, conditions, laid).
  DERIVED. THE GIVEN ROWS OF THIS SEAT. 8 by the template 'for every input the law returns true; each argument reads behind the call as it read before'; 0 by the template 'total and deterministic' (their statements: YtfoickedejcffaaTotals.lean).
  GIVEN WITH THE SEED: the statements are not yours to turn. If you find one false, say at which input.
  Laid BY PROGRAM, IN A SANDBOX (cutbox-rows.mjs): the forced cells as the released guide's own fill.sh prints them over the translation b1a0ef9cbed403ab… (all of the seat's roots in one cut). By AI agents, Wed Nov 11 2026. No macro, syntax, notation, axiom, sorry.
-/
import Derived.Test.YtfoickedejcffaaChecked
import GoSem.Claim
import GoSem.ClaimJoined
import GoSem.ClaimMapViews
import Derived.JoinedTies
import Derived.KernelRfl
namespace Go.Proofs.Ytfoickedejcffaa
/- THE CELL 'sum', in the pinned program and in every row, IS THE sha256 OF THE DUMP (.gsa) THAT YtfoickedejcffaaProg.lean LOADS. Nothing in Lean hashes anything: it is a label: what it is worth is what the hold of that sum in a sandbox is worth. -/
noncomputable def Try.pinned : Pinned := { name := "ytfoickedejcffaa", sum := "b1a0ef9cbed403ab47abfda3e060ec98763e40caaff1cd4caccad18e42304f64", checked := Try.checked }
namespace Rows
def none {H : Type} : Left H := { results := [], args := [] }

/-- 'leatlaw02.WideMuls': WHATEVER THE INPUT: true; the input reads as it did. -/
def wideMulsSpec : ChangeSpec := { name := "wideMuls", fn := fun _ => fun
  | [d1, d2, d3] => { results := [.lit (.bool true)], args := [d1, d2, d3] }
  | _ => none }
def wideMulsRow : OpenClaim := { program := "ytfoickedejcffaa", sum := "b1a0ef9cbed403ab47abfda3e060ec98763e40caaff1cd4caccad18e42304f64", func := "leat/leatlaw02.WideMuls", spec := "wideMuls", inPlace := ["math/bits.Add64"], named := ["math/bits.divideError", "math/bits.overflowError"], apart := false }
def WideMulsSaid : Prop := wideMulsRow.holds Try.pinned (OpenSpec.ofChange wideMulsSpec)

/-- ITS FALSE NEIGHBOUR: 'it returns false'. Refute it at one input. -/
def wideMulsWrong : ChangeSpec := { name := "wideMuls", fn := fun _ => fun
  | [d1, d2, d3] => { results := [.lit (.bool false)], args := [d1, d2, d3] }
  | _ => none }
def WideMulsWrongFalsely : Prop := wideMulsRow.holds Try.pinned (OpenSpec.ofChange wideMulsWrong)

/-- 'leatlaw02.WideMulDivs': WHATEVER THE INPUT: true; the input reads as it did. -/
def wideMulDivsSpec : ChangeSpec := { name := "wideMulDivs", fn := fun _ => fun
  | [d1, d2, d3] => { results := [.lit (.bool true)], args := [d1, d2, d3] }
  | _ => none }
def wideMulDivsRow : OpenClaim := { program := "ytfoickedejcffaa", sum := "b1a0ef9cbed403ab47abfda3e060ec98763e40caaff1cd4caccad18e42304f64", func := "leat/leatlaw02.WideMulDivs", spec := "wideMulDivs", inPlace := ["math/bits.Add64"], named := ["math/bits.divideError", "math/bits.overflowError"], apart := false }
def WideMulDivsSaid : Prop := wideMulDivsRow.holds Try.pinned (OpenSpec.ofChange wideMulDivsSpec)

/-- ITS FALSE NEIGHBOUR: 'it returns false'. Refute it at one input. -/
def wideMulDivsWrong : ChangeSpec := { name := "wideMulDivs", fn := fun _ => fun
  | [d1, d2, d3] => { results := [.lit (.bool false)], args := [d1, d2, d3] }
  | _ => none }
def WideMulDivsWrongFalsely : Prop := wideMulDivsRow.holds Try.pinned (OpenSpec.ofChange wideMulDivsWrong)

/-- 'leatlaw02.WideBack': WHATEVER THE INPUT: true; the input reads as it did. -/
def wideBackSpec : ChangeSpec := { name := "wideBack", fn := fun _ => fun
  | [d1, d2, d3] => { results := [.lit (.bool true)], args := [d1, d2, d3] }
  | _ => none }
def wideBackRow : OpenClaim := { program := "ytfoickedejcffaa", sum := "b1a0ef9cbed403ab47abfda3e060ec98763e40caaff1cd4caccad18e42304f64", func := "leat/leatlaw02.WideBack", spec := "wideBack", inPlace := ["math/bits.Add64"], named := ["math/bits.divideError", "math/bits.overflowError"], apart := false }
def WideBackSaid : Prop := wideBackRow.holds Try.pinned (OpenSpec.ofChange wideBackSpec)

/-- ITS FALSE NEIGHBOUR: 'it returns false'. Refute it at one input. -/
def wideBackWrong : ChangeSpec := { name := "wideBack", fn := fun _ => fun
  | [d1, d2, d3] => { results := [.lit (.bool false)], args := [d1, d2, d3] }
  | _ => none }
def WideBackWrongFalsely : Prop := wideBackRow.holds Try.pinned (OpenSpec.ofChange wideBackWrong)

/-- 'leatlaw02.WideDivs': WHATEVER THE INPUT: true; the input reads as it did. -/
def wideDivsSpec : ChangeSpec := { name := "wideDivs", fn := fun _ => fun
  | [d1, d2] => { results := [.lit (.bool true)], args := [d1, d2] }
  | _ => none }
def wideDivsRow : OpenClaim := { program := "ytfoickedejcffaa", sum := "b1a0ef9cbed403ab47abfda3e060ec98763e40caaff1cd4caccad18e42304f64", func := "leat/leatlaw02.WideDivs", spec := "wideDivs", inPlace := ["math/bits.Add64"], named := ["math/bits.divideError", "math/bits.overflowError"], apart := false }
def WideDivsSaid : Prop := wideDivsRow.holds Try.pinned (OpenSpec.ofChange wideDivsSpec)

/-- ITS FALSE NEIGHBOUR: 'it returns false'. Refute it at one input. -/
def wideDivsWrong : ChangeSpec := { name := "wideDivs", fn := fun _ => fun
  | [d1, d2] => { results := [.lit (.bool false)], args := [d1, d2] }
  | _ => none }
def WideDivsWrongFalsely : Prop := wideDivsRow.holds Try.pinned (OpenSpec.ofChange wideDivsWrong)

/-- 'leatlaw04.FixedShares': WHATEVER THE INPUT: true; the input reads as it did. -/
def fixedSharesSpec : ChangeSpec := { name := "fixedShares", fn := fun _ => fun
  | [d1, d2, d3] => { results := [.lit (.bool true)], args := [d1, d2, d3] }
  | _ => none }
def fixedSharesRow : OpenClaim := { program := "ytfoickedejcffaa", sum := "b1a0ef9cbed403ab47abfda3e060ec98763e40caaff1cd4caccad18e42304f64", func := "leat/leatlaw04.FixedShares", spec := "fixedShares", named := ["math/bits.divideError", "math/bits.overflowError"], apart := false }
def FixedSharesSaid : Prop := fixedSharesRow.holds Try.pinned (OpenSpec.ofChange fixedSharesSpec)

/-- ITS FALSE NEIGHBOUR: 'it returns false'. Refute it at one input. -/
def fixedSharesWrong : ChangeSpec := { name := "fixedShares", fn := fun _ => fun
  | [d1, d2, d3] => { results := [.lit (.bool false)], args := [d1, d2, d3] }
  | _ => none }
def FixedSharesWrongFalsely : Prop := fixedSharesRow.holds Try.pinned (OpenSpec.ofChange fixedSharesWrong)

/-- 'leatlaw04.FixedBetween': WHATEVER THE INPUT: true; the input reads as it did. -/
def fixedBetweenSpec : ChangeSpec := { name := "fixedBetween", fn := fun _ => fun
  | [d1, d2, d3] => { results := [.lit (.bool true)], args := [d1, d2, d3] }
  | _ => none }
def fixedBetweenRow : OpenClaim := { program := "ytfoickedejcffaa", sum := "b1a0ef9cbed403ab47abfda3e060ec98763e40caaff1cd4caccad18e42304f64", func := "leat/leatlaw04.FixedBetween", spec := "fixedBetween", named := ["math/bits.divideError", "math/bits.overflowError"], apart := false }
def FixedBetweenSaid : Prop := fixedBetweenRow.holds Try.pinned (OpenSpec.ofChange fixedBetweenSpec)

/-- ITS FALSE NEIGHBOUR: 'it returns false'. Refute it at one input. -/
def fixedBetweenWrong : ChangeSpec := { name := "fixedBetween", fn := fun _ => fun
  | [d1, d2, d3] => { results := [.lit (.bool false)], args := [d1, d2, d3] }
  | _ => none }
def FixedBetweenWrongFalsely : Prop := fixedBetweenRow.holds Try.pinned (OpenSpec.ofChange fixedBetweenWrong)

/-- 'leatlaw04.FixedSteps': WHATEVER THE INPUT: true; the input reads as it did. -/
def fixedStepsSpec : ChangeSpec := { name := "fixedSteps", fn := fun _ => fun
  | [d1, d2, d3] => { results := [.lit (.bool true)], args := [d1, d2, d3] }
  | _ => none }
def fixedStepsRow : OpenClaim := { program := "ytfoickedejcffaa", sum := "b1a0ef9cbed403ab47abfda3e060ec98763e40caaff1cd4caccad18e42304f64", func := "leat/leatlaw04.FixedSteps", spec := "fixedSteps", named := ["math/bits.divideError", "math/bits.overflowError"], apart := false }
def FixedStepsSaid : Prop := fixedStepsRow.holds Try.pinned (OpenSpec.ofChange fixedStepsSpec)

/-- ITS FALSE NEIGHBOUR: 'it returns false'. Refute it at one input. -/
def fixedStepsWrong : ChangeSpec := { name := "fixedSteps", fn := fun _ => fun
  | [d1, d2, d3] => { results := [.lit (.bool false)], args := [d1, d2, d3] }
  | _ => none }
def FixedStepsWrongFalsely : Prop := fixedStepsRow.holds Try.pinned (OpenSpec.ofChange fixedStepsWrong)

/-- 'leatlaw04.FixedMuls': WHATEVER THE INPUT: true; the input reads as it did. -/
def fixedMulsSpec : ChangeSpec := { name := "fixedMuls", fn := fun _ => fun
  | [d1, d2] => { results := [.lit (.bool true)], args := [d1, d2] }
  | _ => none }
def fixedMulsRow : OpenClaim := { program := "ytfoickedejcffaa", sum := "b1a0ef9cbed403ab47abfda3e060ec98763e40caaff1cd4caccad18e42304f64", func := "leat/leatlaw04.FixedMuls", spec := "fixedMuls", named := ["math/bits.divideError", "math/bits.overflowError"], apart := false }
def FixedMulsSaid : Prop := fixedMulsRow.holds Try.pinned (OpenSpec.ofChange fixedMulsSpec)

/-- ITS FALSE NEIGHBOUR: 'it returns false'. Refute it at one input. -/
def fixedMulsWrong : ChangeSpec := { name := "fixedMuls", fn := fun _ => fun
  | [d1, d2] => { results := [.lit (.bool false)], args := [d1, d2] }
  | _ => none }
def FixedMulsWrongFalsely : Prop := fixedMulsRow.holds Try.pinned (OpenSpec.ofChange fixedMulsWrong)

/- THE SECOND FORM. 'bulk': how many values and letters a reading holds, each counted each time it is reached (what is shared counts as often as it is met; a slice's spare places count too). A statement '..UptoSaid' is the law's where the arguments, and the package variables that the reading takes, are together of bulk at most 1048576: NARROWER than '..Said'. Prove '..Said' where nothing that the law and all that it calls make is longer than what came in: it says more and counts as full. Else prove '..UptoSaid'. A law counts once. -/
mutual
def uptoBulk {H : Type} : DataW H → Nat
  | .lit (.string bytes) => bytes.length + 1
  | .lit _ => 1
  | .nil => 1
  | .ptr d => uptoBulk d + 1
  | .slice elems spare => uptoBulkAll elems + uptoBulkAll spare + 1
  | .agg parts => uptoBulkAll parts + 1
  | .iface _ d => uptoBulk d + 1
  | .map entries => uptoBulkEntries entries + 1
  | .held _ => 1
def uptoBulkAll {H : Type} : List (DataW H) → Nat
  | [] => 0
  | d :: r => uptoBulk d + uptoBulkAll r
def uptoBulkEntries {H : Type} : List (Lit × DataW H) → Nat
  | [] => 0
  | x :: r => uptoBulkEntry x + uptoBulkEntries r
def uptoBulkEntry {H : Type} : Lit × DataW H → Nat
  | (.string bytes, d) => bytes.length + uptoBulk d + 1
  | (_, d) => uptoBulk d + 1
 end
def uptoSmall : (H : Type) → List (DataW H) → Bool := fun _ ds => decide (uptoBulkAll ds ≤ 1048576)
def OpenSpec.upto (s : _root_.Go.ChangeSpec) : _root_.Go.OpenSpec := { _root_.Go.OpenSpec.ofChange s with cond := some uptoSmall }

/-- 'leatlaw02.WideMuls', WHERE WHAT IT READS IS OF BULK AT MOST 1048576: true; the input reads as it did. -/
def wideMulsUptoRow : OpenClaim := { program := "ytfoickedejcffaa", sum := "b1a0ef9cbed403ab47abfda3e060ec98763e40caaff1cd4caccad18e42304f64", func := "leat/leatlaw02.WideMuls", spec := "wideMuls", inPlace := ["math/bits.Add64"], named := ["math/bits.divideError", "math/bits.overflowError"], apart := false, narrowed := true }
def WideMulsUptoSaid : Prop := wideMulsUptoRow.holds Try.pinned (OpenSpec.upto wideMulsSpec)

/-- 'leatlaw02.WideMulDivs', WHERE WHAT IT READS IS OF BULK AT MOST 1048576: true; the input reads as it did. -/
def wideMulDivsUptoRow : OpenClaim := { program := "ytfoickedejcffaa", sum := "b1a0ef9cbed403ab47abfda3e060ec98763e40caaff1cd4caccad18e42304f64", func := "leat/leatlaw02.WideMulDivs", spec := "wideMulDivs", inPlace := ["math/bits.Add64"], named := ["math/bits.divideError", "math/bits.overflowError"], apart := false, narrowed := true }
def WideMulDivsUptoSaid : Prop := wideMulDivsUptoRow.holds Try.pinned (OpenSpec.upto wideMulDivsSpec)

/-- 'leatlaw02.WideBack', WHERE WHAT IT READS IS OF BULK AT MOST 1048576: true; the input reads as it did. -/
def wideBackUptoRow : OpenClaim := { program := "ytfoickedejcffaa", sum := "b1a0ef9cbed403ab47abfda3e060ec98763e40caaff1cd4caccad18e42304f64", func := "leat/leatlaw02.WideBack", spec := "wideBack", inPlace := ["math/bits.Add64"], named := ["math/bits.divideError", "math/bits.overflowError"], apart := false, narrowed := true }
def WideBackUptoSaid : Prop := wideBackUptoRow.holds Try.pinned (OpenSpec.upto wideBackSpec)

/-- 'leatlaw02.WideDivs', WHERE WHAT IT READS IS OF BULK AT MOST 1048576: true; the input reads as it did. -/
def wideDivsUptoRow : OpenClaim := { program := "ytfoickedejcffaa", sum := "b1a0ef9cbed403ab47abfda3e060ec98763e40caaff1cd4caccad18e42304f64", func := "leat/leatlaw02.WideDivs", spec := "wideDivs", inPlace := ["math/bits.Add64"], named := ["math/bits.divideError", "math/bits.overflowError"], apart := false, narrowed := true }
def WideDivsUptoSaid : Prop := wideDivsUptoRow.holds Try.pinned (OpenSpec.upto wideDivsSpec)

/-- 'leatlaw04.FixedShares', WHERE WHAT IT READS IS OF BULK AT MOST 1048576: true; the input reads as it did. -/
def fixedSharesUptoRow : OpenClaim := { program := "ytfoickedejcffaa", sum := "b1a0ef9cbed403ab47abfda3e060ec98763e40caaff1cd4caccad18e42304f64", func := "leat/leatlaw04.FixedShares", spec := "fixedShares", named := ["math/bits.divideError", "math/bits.overflowError"], apart := false, narrowed := true }
def FixedSharesUptoSaid : Prop := fixedSharesUptoRow.holds Try.pinned (OpenSpec.upto fixedSharesSpec)

/-- 'leatlaw04.FixedBetween', WHERE WHAT IT READS IS OF BULK AT MOST 1048576: true; the input reads as it did. -/
def fixedBetweenUptoRow : OpenClaim := { program := "ytfoickedejcffaa", sum := "b1a0ef9cbed403ab47abfda3e060ec98763e40caaff1cd4caccad18e42304f64", func := "leat/leatlaw04.FixedBetween", spec := "fixedBetween", named := ["math/bits.divideError", "math/bits.overflowError"], apart := false, narrowed := true }
def FixedBetweenUptoSaid : Prop := fixedBetweenUptoRow.holds Try.pinned (OpenSpec.upto fixedBetweenSpec)

/-- 'leatlaw04.FixedSteps', WHERE WHAT IT READS IS OF BULK AT MOST 1048576: true; the input reads as it did. -/
def fixedStepsUptoRow : OpenClaim := { program := "ytfoickedejcffaa", sum := "b1a0ef9cbed403ab47abfda3e060ec98763e40caaff1cd4caccad18e42304f64", func := "leat/leatlaw04.FixedSteps", spec := "fixedSteps", named := ["math/bits.divideError", "math/bits.overflowError"], apart := false, narrowed := true }
def FixedStepsUptoSaid : Prop := fixedStepsUptoRow.holds Try.pinned (OpenSpec.upto fixedStepsSpec)

/-- 'leatlaw04.FixedMuls', WHERE WHAT IT READS IS OF BULK AT MOST 1048576: true; the input reads as it did. -/
def fixedMulsUptoRow : OpenClaim := { program := "ytfoickedejcffaa", sum := "b1a0ef9cbed403ab47abfda3e060ec98763e40caaff1cd4caccad18e42304f64", func := "leat/leatlaw04.FixedMuls", spec := "fixedMuls", named := ["math/bits.divideError", "math/bits.overflowError"], apart := false, narrowed := true }
def FixedMulsUptoSaid : Prop := fixedMulsUptoRow.holds Try.pinned (OpenSpec.upto fixedMulsSpec)

end Rows
end Go.Proofs.Ytfoickedejcffaa
