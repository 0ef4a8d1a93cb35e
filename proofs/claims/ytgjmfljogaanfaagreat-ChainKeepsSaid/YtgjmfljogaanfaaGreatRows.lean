/-
  No cell of these rows narrows 'for every input' (looked for: loops, veiled, ifaces, maps, wideKeys, modest, calm, conditions, laid).
  DERIVED. THE GIVEN ROWS OF THIS SEAT. 3 by the template 'for every input the law returns true; each argument reads behind the call as it read before'; 0 by the template 'total and deterministic' (their statements: YtgjmfljogaanfaaGreatTotals.lean).
  GIVEN WITH THE SEED: the statements are not yours to turn. If you find one false, say at which input.
  Laid BY PROGRAM, IN A SANDBOX (cutbox-rows.mjs): the forced cells as the released guide's own fill.sh prints them over the translation ea7c0ff843adca68… (all of the seat's roots in one cut). By AI agents, Wed Nov 11 2026. No macro, syntax, notation, axiom, sorry.
-/
import Derived.Test.YtgjmfljogaanfaaGreatChecked
import GoSem.Claim
import GoSem.ClaimJoined
import GoSem.ClaimMapViews
import Derived.JoinedTies
import Derived.KernelRfl
namespace Go.Proofs.YtgjmfljogaanfaaGreat
/- THE CELL 'sum', in the pinned program and in every row, IS THE sha256 OF THE DUMP (.gsa) THAT YtgjmfljogaanfaaGreatProg.lean LOADS. Nothing in Lean hashes anything: it is a label: what it is worth is what the hold of that sum in a sandbox is worth. -/
noncomputable def Tryz.pinned : Pinned := { name := "ytgjmfljogaanfaagreat", sum := "ea7c0ff843adca68cc4654246943079c1fe382cf9ca3201e1f8b3a76e59a3d0c", checked := Tryz.checked }
namespace Rows
def none {H : Type} : Left H := { results := [], args := [] }

/-- 'leatlaw50.ChainPasses': WHATEVER THE INPUT: true; the input reads as it did. -/
def chainPassesSpec : ChangeSpec := { name := "chainPasses", fn := fun _ => fun
  | [d1, d2] => { results := [.lit (.bool true)], args := [d1, d2] }
  | _ => none }
def chainPassesRow : OpenClaim := { program := "ytgjmfljogaanfaagreat", sum := "ea7c0ff843adca68cc4654246943079c1fe382cf9ca3201e1f8b3a76e59a3d0c", func := "leat/leatlaw50.ChainPasses", spec := "chainPasses", unfollowed := true, recurses := true, named := ["math/bits.divideError", "math/bits.overflowError"], apart := false }
def ChainPassesSaid : Prop := chainPassesRow.holds Tryz.pinned (OpenSpec.ofChange chainPassesSpec)

/-- ITS FALSE NEIGHBOUR: 'it returns false'. Refute it at one input. -/
def chainPassesWrong : ChangeSpec := { name := "chainPasses", fn := fun _ => fun
  | [d1, d2] => { results := [.lit (.bool false)], args := [d1, d2] }
  | _ => none }
def ChainPassesWrongFalsely : Prop := chainPassesRow.holds Tryz.pinned (OpenSpec.ofChange chainPassesWrong)

/-- 'leatlaw50.ChainKeeps': WHATEVER THE INPUT: true; the input reads as it did. -/
def chainKeepsSpec : ChangeSpec := { name := "chainKeeps", fn := fun _ => fun
  | [d1, d2] => { results := [.lit (.bool true)], args := [d1, d2] }
  | _ => none }
def chainKeepsRow : OpenClaim := { program := "ytgjmfljogaanfaagreat", sum := "ea7c0ff843adca68cc4654246943079c1fe382cf9ca3201e1f8b3a76e59a3d0c", func := "leat/leatlaw50.ChainKeeps", spec := "chainKeeps", unfollowed := true, recurses := true, named := ["math/bits.divideError", "math/bits.overflowError"], apart := false }
def ChainKeepsSaid : Prop := chainKeepsRow.holds Tryz.pinned (OpenSpec.ofChange chainKeepsSpec)

/-- ITS FALSE NEIGHBOUR: 'it returns false'. Refute it at one input. -/
def chainKeepsWrong : ChangeSpec := { name := "chainKeeps", fn := fun _ => fun
  | [d1, d2] => { results := [.lit (.bool false)], args := [d1, d2] }
  | _ => none }
def ChainKeepsWrongFalsely : Prop := chainKeepsRow.holds Tryz.pinned (OpenSpec.ofChange chainKeepsWrong)

/-- 'leatlaw50.ChainRuns': WHATEVER THE INPUT: true; the input reads as it did. -/
def chainRunsSpec : ChangeSpec := { name := "chainRuns", fn := fun _ => fun
  | [d1, d2, d3] => { results := [.lit (.bool true)], args := [d1, d2, d3] }
  | _ => none }
def chainRunsRow : OpenClaim := { program := "ytgjmfljogaanfaagreat", sum := "ea7c0ff843adca68cc4654246943079c1fe382cf9ca3201e1f8b3a76e59a3d0c", func := "leat/leatlaw50.ChainRuns", spec := "chainRuns", unfollowed := true, recurses := true, named := ["math/bits.divideError", "math/bits.overflowError"], apart := false }
def ChainRunsSaid : Prop := chainRunsRow.holds Tryz.pinned (OpenSpec.ofChange chainRunsSpec)

/-- ITS FALSE NEIGHBOUR: 'it returns false'. Refute it at one input. -/
def chainRunsWrong : ChangeSpec := { name := "chainRuns", fn := fun _ => fun
  | [d1, d2, d3] => { results := [.lit (.bool false)], args := [d1, d2, d3] }
  | _ => none }
def ChainRunsWrongFalsely : Prop := chainRunsRow.holds Tryz.pinned (OpenSpec.ofChange chainRunsWrong)

/- THE SECOND FORM. 'bulk': how many values and letters a reading holds, each counted each time it is reached (what is shared counts as often as it is met; a slice's spare places count too). A statement '..UptoSaid' is the law's where the arguments, and the package variables that the reading takes, are together of bulk at most 1048576: NARROWER than '..Said'. Prove '..Said' where nothing that the law and all that it calls make is longer than what came in: it says more and counts as full. Else prove '..UptoSaid'. A law counts once. -/
mutual
def uptoBulk {H : Type} : DataW H → Nat
  | .lit (.string bytes) => bytes.length + 1
  | .lit _ => 1
  | .nil => 1
  | .ptr d => uptoBulk d + 1
  | .slice elems spare => uptoBulkAll elems + uptoBulkAll spare + 1
  | .agg parts => uptoBulkAll parts + 1
  | .iface _ d => uptoBulk d + 1
  | .map entries => uptoBulkEntries entries + 1
  | .held _ => 1
def uptoBulkAll {H : Type} : List (DataW H) → Nat
  | [] => 0
  | d :: r => uptoBulk d + uptoBulkAll r
def uptoBulkEntries {H : Type} : List (Lit × DataW H) → Nat
  | [] => 0
  | x :: r => uptoBulkEntry x + uptoBulkEntries r
def uptoBulkEntry {H : Type} : Lit × DataW H → Nat
  | (.string bytes, d) => bytes.length + uptoBulk d + 1
  | (_, d) => uptoBulk d + 1
 end
def uptoSmall : (H : Type) → List (DataW H) → Bool := fun _ ds => decide (uptoBulkAll ds ≤ 1048576)
def OpenSpec.upto (s : _root_.Go.ChangeSpec) : _root_.Go.OpenSpec := { _root_.Go.OpenSpec.ofChange s with cond := some uptoSmall }

/-- 'leatlaw50.ChainPasses', WHERE WHAT IT READS IS OF BULK AT MOST 1048576: true; the input reads as it did. -/
def chainPassesUptoRow : OpenClaim := { program := "ytgjmfljogaanfaagreat", sum := "ea7c0ff843adca68cc4654246943079c1fe382cf9ca3201e1f8b3a76e59a3d0c", func := "leat/leatlaw50.ChainPasses", spec := "chainPasses", unfollowed := true, recurses := true, named := ["math/bits.divideError", "math/bits.overflowError"], apart := false, narrowed := true }
def ChainPassesUptoSaid : Prop := chainPassesUptoRow.holds Tryz.pinned (OpenSpec.upto chainPassesSpec)

/-- 'leatlaw50.ChainKeeps', WHERE WHAT IT READS IS OF BULK AT MOST 1048576: true; the input reads as it did. -/
def chainKeepsUptoRow : OpenClaim := { program := "ytgjmfljogaanfaagreat", sum := "ea7c0ff843adca68cc4654246943079c1fe382cf9ca3201e1f8b3a76e59a3d0c", func := "leat/leatlaw50.ChainKeeps", spec := "chainKeeps", unfollowed := true, recurses := true, named := ["math/bits.divideError", "math/bits.overflowError"], apart := false, narrowed := true }
def ChainKeepsUptoSaid : Prop := chainKeepsUptoRow.holds Tryz.pinned (OpenSpec.upto chainKeepsSpec)

/-- 'leatlaw50.ChainRuns', WHERE WHAT IT READS IS OF BULK AT MOST 1048576: true; the input reads as it did. -/
def chainRunsUptoRow : OpenClaim := { program := "ytgjmfljogaanfaagreat", sum := "ea7c0ff843adca68cc4654246943079c1fe382cf9ca3201e1f8b3a76e59a3d0c", func := "leat/leatlaw50.ChainRuns", spec := "chainRuns", unfollowed := true, recurses := true, named := ["math/bits.divideError", "math/bits.overflowError"], apart := false, narrowed := true }
def ChainRunsUptoSaid : Prop := chainRunsUptoRow.holds Tryz.pinned (OpenSpec.upto chainRunsSpec)

end Rows
end Go.Proofs.YtgjmfljogaanfaaGreat
