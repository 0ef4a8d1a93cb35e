/-
  No cell of these rows narrows 'for every input' (looked for: loops, veiled, ifaces, maps, wideKeys, modest, calm, conditions, laid).
  DERIVED. THE GIVEN ROWS OF THIS SEAT. 4 by the template 'for every input the law returns true; each argument reads behind the call as it read before'; 0 by the template 'total and deterministic' (their statements: YteidghhjccohdaaTotals.lean).
  GIVEN WITH THE SEED: the statements are not yours to turn. If you find one false, say at which input.
  Laid BY PROGRAM, IN A SANDBOX (cutbox-rows.mjs): the forced cells as the released guide's own fill.sh prints them over the translation c84986b0474a1529… (all of the seat's roots in one cut). By AI agents, Wed Nov 11 2026. No macro, syntax, notation, axiom, sorry.
-/
import Derived.Test.YteidghhjccohdaaChecked
import GoSem.Claim
import GoSem.ClaimJoined
import GoSem.ClaimMapViews
import Derived.JoinedTies
import Derived.KernelRfl
namespace Go.Proofs.Yteidghhjccohdaa
/- THE CELL 'sum', in the pinned program and in every row, IS THE sha256 OF THE DUMP (.gsa) THAT YteidghhjccohdaaProg.lean LOADS. Nothing in Lean hashes anything: it is a label: what it is worth is what the hold of that sum in a sandbox is worth. -/
noncomputable def Try.pinned : Pinned := { name := "yteidghhjccohdaa", sum := "c84986b0474a15290ca61d0a9602dfcdf2ee1080a7309bbe944d7ecad1450cb7", checked := Try.checked }
namespace Rows
def none {H : Type} : Left H := { results := [], args := [] }

/-- 'leatlaw36.DualKeeps': WHATEVER THE INPUT: true; the input reads as it did. -/
def dualKeepsSpec : ChangeSpec := { name := "dualKeeps", fn := fun _ => fun
  | [d1, d2, d3] => { results := [.lit (.bool true)], args := [d1, d2, d3] }
  | _ => none }
def dualKeepsRow : OpenClaim := { program := "yteidghhjccohdaa", sum := "c84986b0474a15290ca61d0a9602dfcdf2ee1080a7309bbe944d7ecad1450cb7", func := "leat/leatlaw36.DualKeeps", spec := "dualKeeps", unfollowed := true, recurses := true, named := ["math/bits.divideError", "math/bits.overflowError"], apart := false }
def DualKeepsSaid : Prop := dualKeepsRow.holds Try.pinned (OpenSpec.ofChange dualKeepsSpec)

/-- ITS FALSE NEIGHBOUR: 'it returns false'. Refute it at one input. -/
def dualKeepsWrong : ChangeSpec := { name := "dualKeeps", fn := fun _ => fun
  | [d1, d2, d3] => { results := [.lit (.bool false)], args := [d1, d2, d3] }
  | _ => none }
def DualKeepsWrongFalsely : Prop := dualKeepsRow.holds Try.pinned (OpenSpec.ofChange dualKeepsWrong)

/-- 'leatlaw36.DualOrders': WHATEVER THE INPUT: true; the input reads as it did. -/
def dualOrdersSpec : ChangeSpec := { name := "dualOrders", fn := fun _ => fun
  | [d1, d2, d3] => { results := [.lit (.bool true)], args := [d1, d2, d3] }
  | _ => none }
def dualOrdersRow : OpenClaim := { program := "yteidghhjccohdaa", sum := "c84986b0474a15290ca61d0a9602dfcdf2ee1080a7309bbe944d7ecad1450cb7", func := "leat/leatlaw36.DualOrders", spec := "dualOrders", unfollowed := true, recurses := true, named := ["math/bits.divideError", "math/bits.overflowError"], apart := false }
def DualOrdersSaid : Prop := dualOrdersRow.holds Try.pinned (OpenSpec.ofChange dualOrdersSpec)

/-- ITS FALSE NEIGHBOUR: 'it returns false'. Refute it at one input. -/
def dualOrdersWrong : ChangeSpec := { name := "dualOrders", fn := fun _ => fun
  | [d1, d2, d3] => { results := [.lit (.bool false)], args := [d1, d2, d3] }
  | _ => none }
def DualOrdersWrongFalsely : Prop := dualOrdersRow.holds Try.pinned (OpenSpec.ofChange dualOrdersWrong)

/-- 'leatlaw36.DualPlays': WHATEVER THE INPUT: true; the input reads as it did. -/
def dualPlaysSpec : ChangeSpec := { name := "dualPlays", fn := fun _ => fun
  | [d1, d2, d3] => { results := [.lit (.bool true)], args := [d1, d2, d3] }
  | _ => none }
def dualPlaysRow : OpenClaim := { program := "yteidghhjccohdaa", sum := "c84986b0474a15290ca61d0a9602dfcdf2ee1080a7309bbe944d7ecad1450cb7", func := "leat/leatlaw36.DualPlays", spec := "dualPlays", unfollowed := true, recurses := true, named := ["math/bits.divideError", "math/bits.overflowError"], apart := false }
def DualPlaysSaid : Prop := dualPlaysRow.holds Try.pinned (OpenSpec.ofChange dualPlaysSpec)

/-- ITS FALSE NEIGHBOUR: 'it returns false'. Refute it at one input. -/
def dualPlaysWrong : ChangeSpec := { name := "dualPlays", fn := fun _ => fun
  | [d1, d2, d3] => { results := [.lit (.bool false)], args := [d1, d2, d3] }
  | _ => none }
def DualPlaysWrongFalsely : Prop := dualPlaysRow.holds Try.pinned (OpenSpec.ofChange dualPlaysWrong)

/-- 'leatlaw36.DualNil': WHATEVER THE INPUT: true; the input reads as it did. -/
def dualNilSpec : ChangeSpec := { name := "dualNil", fn := fun _ => fun
  | [d1, d2] => { results := [.lit (.bool true)], args := [d1, d2] }
  | _ => none }
def dualNilRow : OpenClaim := { program := "yteidghhjccohdaa", sum := "c84986b0474a15290ca61d0a9602dfcdf2ee1080a7309bbe944d7ecad1450cb7", func := "leat/leatlaw36.DualNil", spec := "dualNil", unfollowed := true, recurses := true, named := ["math/bits.divideError", "math/bits.overflowError"], apart := false }
def DualNilSaid : Prop := dualNilRow.holds Try.pinned (OpenSpec.ofChange dualNilSpec)

/-- ITS FALSE NEIGHBOUR: 'it returns false'. Refute it at one input. -/
def dualNilWrong : ChangeSpec := { name := "dualNil", fn := fun _ => fun
  | [d1, d2] => { results := [.lit (.bool false)], args := [d1, d2] }
  | _ => none }
def DualNilWrongFalsely : Prop := dualNilRow.holds Try.pinned (OpenSpec.ofChange dualNilWrong)

/- THE SECOND FORM. 'bulk': how many values and letters a reading holds, each counted each time it is reached (what is shared counts as often as it is met; a slice's spare places count too). A statement '..UptoSaid' is the law's where the arguments, and the package variables that the reading takes, are together of bulk at most 1048576: NARROWER than '..Said'. Prove '..Said' where nothing that the law and all that it calls make is longer than what came in: it says more and counts as full. Else prove '..UptoSaid'. A law counts once. -/
mutual
def uptoBulk {H : Type} : DataW H → Nat
  | .lit (.string bytes) => bytes.length + 1
  | .lit _ => 1
  | .nil => 1
  | .ptr d => uptoBulk d + 1
  | .slice elems spare => uptoBulkAll elems + uptoBulkAll spare + 1
  | .agg parts => uptoBulkAll parts + 1
  | .iface _ d => uptoBulk d + 1
  | .map entries => uptoBulkEntries entries + 1
  | .held _ => 1
def uptoBulkAll {H : Type} : List (DataW H) → Nat
  | [] => 0
  | d :: r => uptoBulk d + uptoBulkAll r
def uptoBulkEntries {H : Type} : List (Lit × DataW H) → Nat
  | [] => 0
  | x :: r => uptoBulkEntry x + uptoBulkEntries r
def uptoBulkEntry {H : Type} : Lit × DataW H → Nat
  | (.string bytes, d) => bytes.length + uptoBulk d + 1
  | (_, d) => uptoBulk d + 1
 end
def uptoSmall : (H : Type) → List (DataW H) → Bool := fun _ ds => decide (uptoBulkAll ds ≤ 1048576)
def OpenSpec.upto (s : _root_.Go.ChangeSpec) : _root_.Go.OpenSpec := { _root_.Go.OpenSpec.ofChange s with cond := some uptoSmall }

/-- 'leatlaw36.DualKeeps', WHERE WHAT IT READS IS OF BULK AT MOST 1048576: true; the input reads as it did. -/
def dualKeepsUptoRow : OpenClaim := { program := "yteidghhjccohdaa", sum := "c84986b0474a15290ca61d0a9602dfcdf2ee1080a7309bbe944d7ecad1450cb7", func := "leat/leatlaw36.DualKeeps", spec := "dualKeeps", unfollowed := true, recurses := true, named := ["math/bits.divideError", "math/bits.overflowError"], apart := false, narrowed := true }
def DualKeepsUptoSaid : Prop := dualKeepsUptoRow.holds Try.pinned (OpenSpec.upto dualKeepsSpec)

/-- 'leatlaw36.DualOrders', WHERE WHAT IT READS IS OF BULK AT MOST 1048576: true; the input reads as it did. -/
def dualOrdersUptoRow : OpenClaim := { program := "yteidghhjccohdaa", sum := "c84986b0474a15290ca61d0a9602dfcdf2ee1080a7309bbe944d7ecad1450cb7", func := "leat/leatlaw36.DualOrders", spec := "dualOrders", unfollowed := true, recurses := true, named := ["math/bits.divideError", "math/bits.overflowError"], apart := false, narrowed := true }
def DualOrdersUptoSaid : Prop := dualOrdersUptoRow.holds Try.pinned (OpenSpec.upto dualOrdersSpec)

/-- 'leatlaw36.DualPlays', WHERE WHAT IT READS IS OF BULK AT MOST 1048576: true; the input reads as it did. -/
def dualPlaysUptoRow : OpenClaim := { program := "yteidghhjccohdaa", sum := "c84986b0474a15290ca61d0a9602dfcdf2ee1080a7309bbe944d7ecad1450cb7", func := "leat/leatlaw36.DualPlays", spec := "dualPlays", unfollowed := true, recurses := true, named := ["math/bits.divideError", "math/bits.overflowError"], apart := false, narrowed := true }
def DualPlaysUptoSaid : Prop := dualPlaysUptoRow.holds Try.pinned (OpenSpec.upto dualPlaysSpec)

/-- 'leatlaw36.DualNil', WHERE WHAT IT READS IS OF BULK AT MOST 1048576: true; the input reads as it did. -/
def dualNilUptoRow : OpenClaim := { program := "yteidghhjccohdaa", sum := "c84986b0474a15290ca61d0a9602dfcdf2ee1080a7309bbe944d7ecad1450cb7", func := "leat/leatlaw36.DualNil", spec := "dualNil", unfollowed := true, recurses := true, named := ["math/bits.divideError", "math/bits.overflowError"], apart := false, narrowed := true }
def DualNilUptoSaid : Prop := dualNilUptoRow.holds Try.pinned (OpenSpec.upto dualNilSpec)

end Rows
end Go.Proofs.Yteidghhjccohdaa
