/-
  No cell of these rows narrows 'for every input' (looked for: loops, veiled, ifaces, maps, wideKeys, modest, calm, conditions, laid).
  DERIVED. THE GIVEN ROWS OF THIS SEAT. 11 by the template 'for every input the law returns true; each argument reads behind the call as it read before'; 0 by the template 'total and deterministic' (their statements: YtfiiifogplhppaaTotals.lean).
  GIVEN WITH THE SEED: the statements are not yours to turn. If you find one false, say at which input.
  Laid BY PROGRAM, IN A SANDBOX (cutbox-rows.mjs): the forced cells as the released guide's own fill.sh prints them over the translation 043ba875f445c7b0… (all of the seat's roots in one cut). By AI agents, Wed Nov 11 2026. No macro, syntax, notation, axiom, sorry.
-/
import Derived.Test.YtfiiifogplhppaaChecked
import GoSem.Claim
import GoSem.ClaimJoined
import GoSem.ClaimMapViews
import Derived.JoinedTies
import Derived.KernelRfl
namespace Go.Proofs.Ytfiiifogplhppaa
/- THE CELL 'sum', in the pinned program and in every row, IS THE sha256 OF THE DUMP (.gsa) THAT YtfiiifogplhppaaProg.lean LOADS. Nothing in Lean hashes anything: it is a label: what it is worth is what the hold of that sum in a sandbox is worth. -/
noncomputable def Try.pinned : Pinned := { name := "ytfiiifogplhppaa", sum := "043ba875f445c7b0478f7f9bacc8717b0644ffede8ff3d9de84a4e2bc2eee663", checked := Try.checked }
namespace Rows
def none {H : Type} : Left H := { results := [], args := [] }

/-- 'leatlaw22.TimerFires': WHATEVER THE INPUT: true; the input reads as it did. -/
def timerFiresSpec : ChangeSpec := { name := "timerFires", fn := fun _ => fun
  | [d1, d2] => { results := [.lit (.bool true)], args := [d1, d2] }
  | _ => none }
def timerFiresRow : OpenClaim := { program := "ytfiiifogplhppaa", sum := "043ba875f445c7b0478f7f9bacc8717b0644ffede8ff3d9de84a4e2bc2eee663", func := "leat/leatlaw22.TimerFires", spec := "timerFires", unfollowed := true, recurses := true, apart := false }
def TimerFiresSaid : Prop := timerFiresRow.holds Try.pinned (OpenSpec.ofChange timerFiresSpec)

/-- ITS FALSE NEIGHBOUR: 'it returns false'. Refute it at one input. -/
def timerFiresWrong : ChangeSpec := { name := "timerFires", fn := fun _ => fun
  | [d1, d2] => { results := [.lit (.bool false)], args := [d1, d2] }
  | _ => none }
def TimerFiresWrongFalsely : Prop := timerFiresRow.holds Try.pinned (OpenSpec.ofChange timerFiresWrong)

/-- 'leatlaw22.TimerBacks': WHATEVER THE INPUT: true; the input reads as it did. -/
def timerBacksSpec : ChangeSpec := { name := "timerBacks", fn := fun _ => fun
  | [d1, d2, d3] => { results := [.lit (.bool true)], args := [d1, d2, d3] }
  | _ => none }
def timerBacksRow : OpenClaim := { program := "ytfiiifogplhppaa", sum := "043ba875f445c7b0478f7f9bacc8717b0644ffede8ff3d9de84a4e2bc2eee663", func := "leat/leatlaw22.TimerBacks", spec := "timerBacks", unfollowed := true, recurses := true, apart := false }
def TimerBacksSaid : Prop := timerBacksRow.holds Try.pinned (OpenSpec.ofChange timerBacksSpec)

/-- ITS FALSE NEIGHBOUR: 'it returns false'. Refute it at one input. -/
def timerBacksWrong : ChangeSpec := { name := "timerBacks", fn := fun _ => fun
  | [d1, d2, d3] => { results := [.lit (.bool false)], args := [d1, d2, d3] }
  | _ => none }
def TimerBacksWrongFalsely : Prop := timerBacksRow.holds Try.pinned (OpenSpec.ofChange timerBacksWrong)

/-- 'leatlaw35.TurnPicks': WHATEVER THE INPUT: true; the input reads as it did. -/
def turnPicksSpec : ChangeSpec := { name := "turnPicks", fn := fun _ => fun
  | [d1, d2, d3] => { results := [.lit (.bool true)], args := [d1, d2, d3] }
  | _ => none }
def turnPicksRow : OpenClaim := { program := "ytfiiifogplhppaa", sum := "043ba875f445c7b0478f7f9bacc8717b0644ffede8ff3d9de84a4e2bc2eee663", func := "leat/leatlaw35.TurnPicks", spec := "turnPicks", apart := false }
def TurnPicksSaid : Prop := turnPicksRow.holds Try.pinned (OpenSpec.ofChange turnPicksSpec)

/-- ITS FALSE NEIGHBOUR: 'it returns false'. Refute it at one input. -/
def turnPicksWrong : ChangeSpec := { name := "turnPicks", fn := fun _ => fun
  | [d1, d2, d3] => { results := [.lit (.bool false)], args := [d1, d2, d3] }
  | _ => none }
def TurnPicksWrongFalsely : Prop := turnPicksRow.holds Try.pinned (OpenSpec.ofChange turnPicksWrong)

/-- 'leatlaw35.TurnShares': WHATEVER THE INPUT: true; the input reads as it did. -/
def turnSharesSpec : ChangeSpec := { name := "turnShares", fn := fun _ => fun
  | [d1, d2] => { results := [.lit (.bool true)], args := [d1, d2] }
  | _ => none }
def turnSharesRow : OpenClaim := { program := "ytfiiifogplhppaa", sum := "043ba875f445c7b0478f7f9bacc8717b0644ffede8ff3d9de84a4e2bc2eee663", func := "leat/leatlaw35.TurnShares", spec := "turnShares", apart := false }
def TurnSharesSaid : Prop := turnSharesRow.holds Try.pinned (OpenSpec.ofChange turnSharesSpec)

/-- ITS FALSE NEIGHBOUR: 'it returns false'. Refute it at one input. -/
def turnSharesWrong : ChangeSpec := { name := "turnShares", fn := fun _ => fun
  | [d1, d2] => { results := [.lit (.bool false)], args := [d1, d2] }
  | _ => none }
def TurnSharesWrongFalsely : Prop := turnSharesRow.holds Try.pinned (OpenSpec.ofChange turnSharesWrong)

/-- 'leatlaw34.StepRises': WHATEVER THE INPUT: true; the input reads as it did. -/
def stepRisesSpec : ChangeSpec := { name := "stepRises", fn := fun _ => fun
  | [d1, d2, d3] => { results := [.lit (.bool true)], args := [d1, d2, d3] }
  | _ => none }
def stepRisesRow : OpenClaim := { program := "ytfiiifogplhppaa", sum := "043ba875f445c7b0478f7f9bacc8717b0644ffede8ff3d9de84a4e2bc2eee663", func := "leat/leatlaw34.StepRises", spec := "stepRises", unfollowed := true, recurses := true, named := ["math/bits.divideError", "math/bits.overflowError"], apart := false }
def StepRisesSaid : Prop := stepRisesRow.holds Try.pinned (OpenSpec.ofChange stepRisesSpec)

/-- ITS FALSE NEIGHBOUR: 'it returns false'. Refute it at one input. -/
def stepRisesWrong : ChangeSpec := { name := "stepRises", fn := fun _ => fun
  | [d1, d2, d3] => { results := [.lit (.bool false)], args := [d1, d2, d3] }
  | _ => none }
def StepRisesWrongFalsely : Prop := stepRisesRow.holds Try.pinned (OpenSpec.ofChange stepRisesWrong)

/-- 'leatlaw34.StepRamps': WHATEVER THE INPUT: true; the input reads as it did. -/
def stepRampsSpec : ChangeSpec := { name := "stepRamps", fn := fun _ => fun
  | [d1, d2, d3] => { results := [.lit (.bool true)], args := [d1, d2, d3] }
  | _ => none }
def stepRampsRow : OpenClaim := { program := "ytfiiifogplhppaa", sum := "043ba875f445c7b0478f7f9bacc8717b0644ffede8ff3d9de84a4e2bc2eee663", func := "leat/leatlaw34.StepRamps", spec := "stepRamps", unfollowed := true, recurses := true, named := ["math/bits.divideError", "math/bits.overflowError"], apart := false }
def StepRampsSaid : Prop := stepRampsRow.holds Try.pinned (OpenSpec.ofChange stepRampsSpec)

/-- ITS FALSE NEIGHBOUR: 'it returns false'. Refute it at one input. -/
def stepRampsWrong : ChangeSpec := { name := "stepRamps", fn := fun _ => fun
  | [d1, d2, d3] => { results := [.lit (.bool false)], args := [d1, d2, d3] }
  | _ => none }
def StepRampsWrongFalsely : Prop := stepRampsRow.holds Try.pinned (OpenSpec.ofChange stepRampsWrong)

/-- 'leatlaw33.CoupleRises': WHATEVER THE INPUT: true; the input reads as it did. -/
def coupleRisesSpec : ChangeSpec := { name := "coupleRises", fn := fun _ => fun
  | [d1, d2] => { results := [.lit (.bool true)], args := [d1, d2] }
  | _ => none }
def coupleRisesRow : OpenClaim := { program := "ytfiiifogplhppaa", sum := "043ba875f445c7b0478f7f9bacc8717b0644ffede8ff3d9de84a4e2bc2eee663", func := "leat/leatlaw33.CoupleRises", spec := "coupleRises", unfollowed := true, recurses := true, named := ["math/bits.divideError", "math/bits.overflowError"], apart := false }
def CoupleRisesSaid : Prop := coupleRisesRow.holds Try.pinned (OpenSpec.ofChange coupleRisesSpec)

/-- ITS FALSE NEIGHBOUR: 'it returns false'. Refute it at one input. -/
def coupleRisesWrong : ChangeSpec := { name := "coupleRises", fn := fun _ => fun
  | [d1, d2] => { results := [.lit (.bool false)], args := [d1, d2] }
  | _ => none }
def CoupleRisesWrongFalsely : Prop := coupleRisesRow.holds Try.pinned (OpenSpec.ofChange coupleRisesWrong)

/-- 'leatlaw33.CoupleSquares': WHATEVER THE INPUT: true; the input reads as it did. -/
def coupleSquaresSpec : ChangeSpec := { name := "coupleSquares", fn := fun _ => fun
  | [d] => { results := [.lit (.bool true)], args := [d] }
  | _ => none }
def coupleSquaresRow : OpenClaim := { program := "ytfiiifogplhppaa", sum := "043ba875f445c7b0478f7f9bacc8717b0644ffede8ff3d9de84a4e2bc2eee663", func := "leat/leatlaw33.CoupleSquares", spec := "coupleSquares", unfollowed := true, recurses := true, named := ["math/bits.divideError", "math/bits.overflowError"], apart := false }
def CoupleSquaresSaid : Prop := coupleSquaresRow.holds Try.pinned (OpenSpec.ofChange coupleSquaresSpec)

/-- ITS FALSE NEIGHBOUR: 'it returns false'. Refute it at one input. -/
def coupleSquaresWrong : ChangeSpec := { name := "coupleSquares", fn := fun _ => fun
  | [d] => { results := [.lit (.bool false)], args := [d] }
  | _ => none }
def CoupleSquaresWrongFalsely : Prop := coupleSquaresRow.holds Try.pinned (OpenSpec.ofChange coupleSquaresWrong)

/-- 'leatlaw33.CoupleShares': WHATEVER THE INPUT: true; the input reads as it did. -/
def coupleSharesSpec : ChangeSpec := { name := "coupleShares", fn := fun _ => fun
  | [d1, d2, d3] => { results := [.lit (.bool true)], args := [d1, d2, d3] }
  | _ => none }
def coupleSharesRow : OpenClaim := { program := "ytfiiifogplhppaa", sum := "043ba875f445c7b0478f7f9bacc8717b0644ffede8ff3d9de84a4e2bc2eee663", func := "leat/leatlaw33.CoupleShares", spec := "coupleShares", unfollowed := true, recurses := true, named := ["math/bits.divideError", "math/bits.overflowError"], apart := false }
def CoupleSharesSaid : Prop := coupleSharesRow.holds Try.pinned (OpenSpec.ofChange coupleSharesSpec)

/-- ITS FALSE NEIGHBOUR: 'it returns false'. Refute it at one input. -/
def coupleSharesWrong : ChangeSpec := { name := "coupleShares", fn := fun _ => fun
  | [d1, d2, d3] => { results := [.lit (.bool false)], args := [d1, d2, d3] }
  | _ => none }
def CoupleSharesWrongFalsely : Prop := coupleSharesRow.holds Try.pinned (OpenSpec.ofChange coupleSharesWrong)

/-- 'leatlaw27.ClassicRounds': WHATEVER THE INPUT: true; the input reads as it did. -/
def classicRoundsSpec : ChangeSpec := { name := "classicRounds", fn := fun _ => fun
  | [d1, d2, d3] => { results := [.lit (.bool true)], args := [d1, d2, d3] }
  | _ => none }
def classicRoundsRow : OpenClaim := { program := "ytfiiifogplhppaa", sum := "043ba875f445c7b0478f7f9bacc8717b0644ffede8ff3d9de84a4e2bc2eee663", func := "leat/leatlaw27.ClassicRounds", spec := "classicRounds", unfollowed := true, recurses := true, named := ["math/bits.divideError", "math/bits.overflowError"], apart := false }
def ClassicRoundsSaid : Prop := classicRoundsRow.holds Try.pinned (OpenSpec.ofChange classicRoundsSpec)

/-- ITS FALSE NEIGHBOUR: 'it returns false'. Refute it at one input. -/
def classicRoundsWrong : ChangeSpec := { name := "classicRounds", fn := fun _ => fun
  | [d1, d2, d3] => { results := [.lit (.bool false)], args := [d1, d2, d3] }
  | _ => none }
def ClassicRoundsWrongFalsely : Prop := classicRoundsRow.holds Try.pinned (OpenSpec.ofChange classicRoundsWrong)

/-- 'leatlaw27.ClassicWaits': WHATEVER THE INPUT: true; the input reads as it did. -/
def classicWaitsSpec : ChangeSpec := { name := "classicWaits", fn := fun _ => fun
  | [d1, d2] => { results := [.lit (.bool true)], args := [d1, d2] }
  | _ => none }
def classicWaitsRow : OpenClaim := { program := "ytfiiifogplhppaa", sum := "043ba875f445c7b0478f7f9bacc8717b0644ffede8ff3d9de84a4e2bc2eee663", func := "leat/leatlaw27.ClassicWaits", spec := "classicWaits", unfollowed := true, recurses := true, named := ["math/bits.divideError", "math/bits.overflowError"], apart := false }
def ClassicWaitsSaid : Prop := classicWaitsRow.holds Try.pinned (OpenSpec.ofChange classicWaitsSpec)

/-- ITS FALSE NEIGHBOUR: 'it returns false'. Refute it at one input. -/
def classicWaitsWrong : ChangeSpec := { name := "classicWaits", fn := fun _ => fun
  | [d1, d2] => { results := [.lit (.bool false)], args := [d1, d2] }
  | _ => none }
def ClassicWaitsWrongFalsely : Prop := classicWaitsRow.holds Try.pinned (OpenSpec.ofChange classicWaitsWrong)

/- THE SECOND FORM. 'bulk': how many values and letters a reading holds, each counted each time it is reached (what is shared counts as often as it is met; a slice's spare places count too). A statement '..UptoSaid' is the law's where the arguments, and the package variables that the reading takes, are together of bulk at most 1048576: NARROWER than '..Said'. Prove '..Said' where nothing that the law and all that it calls make is longer than what came in: it says more and counts as full. Else prove '..UptoSaid'. A law counts once. -/
mutual
def uptoBulk {H : Type} : DataW H → Nat
  | .lit (.string bytes) => bytes.length + 1
  | .lit _ => 1
  | .nil => 1
  | .ptr d => uptoBulk d + 1
  | .slice elems spare => uptoBulkAll elems + uptoBulkAll spare + 1
  | .agg parts => uptoBulkAll parts + 1
  | .iface _ d => uptoBulk d + 1
  | .map entries => uptoBulkEntries entries + 1
  | .held _ => 1
def uptoBulkAll {H : Type} : List (DataW H) → Nat
  | [] => 0
  | d :: r => uptoBulk d + uptoBulkAll r
def uptoBulkEntries {H : Type} : List (Lit × DataW H) → Nat
  | [] => 0
  | x :: r => uptoBulkEntry x + uptoBulkEntries r
def uptoBulkEntry {H : Type} : Lit × DataW H → Nat
  | (.string bytes, d) => bytes.length + uptoBulk d + 1
  | (_, d) => uptoBulk d + 1
 end
def uptoSmall : (H : Type) → List (DataW H) → Bool := fun _ ds => decide (uptoBulkAll ds ≤ 1048576)
def OpenSpec.upto (s : _root_.Go.ChangeSpec) : _root_.Go.OpenSpec := { _root_.Go.OpenSpec.ofChange s with cond := some uptoSmall }

/-- 'leatlaw22.TimerFires', WHERE WHAT IT READS IS OF BULK AT MOST 1048576: true; the input reads as it did. -/
def timerFiresUptoRow : OpenClaim := { program := "ytfiiifogplhppaa", sum := "043ba875f445c7b0478f7f9bacc8717b0644ffede8ff3d9de84a4e2bc2eee663", func := "leat/leatlaw22.TimerFires", spec := "timerFires", unfollowed := true, recurses := true, apart := false, narrowed := true }
def TimerFiresUptoSaid : Prop := timerFiresUptoRow.holds Try.pinned (OpenSpec.upto timerFiresSpec)

/-- 'leatlaw22.TimerBacks', WHERE WHAT IT READS IS OF BULK AT MOST 1048576: true; the input reads as it did. -/
def timerBacksUptoRow : OpenClaim := { program := "ytfiiifogplhppaa", sum := "043ba875f445c7b0478f7f9bacc8717b0644ffede8ff3d9de84a4e2bc2eee663", func := "leat/leatlaw22.TimerBacks", spec := "timerBacks", unfollowed := true, recurses := true, apart := false, narrowed := true }
def TimerBacksUptoSaid : Prop := timerBacksUptoRow.holds Try.pinned (OpenSpec.upto timerBacksSpec)

/-- 'leatlaw35.TurnPicks', WHERE WHAT IT READS IS OF BULK AT MOST 1048576: true; the input reads as it did. -/
def turnPicksUptoRow : OpenClaim := { program := "ytfiiifogplhppaa", sum := "043ba875f445c7b0478f7f9bacc8717b0644ffede8ff3d9de84a4e2bc2eee663", func := "leat/leatlaw35.TurnPicks", spec := "turnPicks", apart := false, narrowed := true }
def TurnPicksUptoSaid : Prop := turnPicksUptoRow.holds Try.pinned (OpenSpec.upto turnPicksSpec)

/-- 'leatlaw35.TurnShares', WHERE WHAT IT READS IS OF BULK AT MOST 1048576: true; the input reads as it did. -/
def turnSharesUptoRow : OpenClaim := { program := "ytfiiifogplhppaa", sum := "043ba875f445c7b0478f7f9bacc8717b0644ffede8ff3d9de84a4e2bc2eee663", func := "leat/leatlaw35.TurnShares", spec := "turnShares", apart := false, narrowed := true }
def TurnSharesUptoSaid : Prop := turnSharesUptoRow.holds Try.pinned (OpenSpec.upto turnSharesSpec)

/-- 'leatlaw34.StepRises', WHERE WHAT IT READS IS OF BULK AT MOST 1048576: true; the input reads as it did. -/
def stepRisesUptoRow : OpenClaim := { program := "ytfiiifogplhppaa", sum := "043ba875f445c7b0478f7f9bacc8717b0644ffede8ff3d9de84a4e2bc2eee663", func := "leat/leatlaw34.StepRises", spec := "stepRises", unfollowed := true, recurses := true, named := ["math/bits.divideError", "math/bits.overflowError"], apart := false, narrowed := true }
def StepRisesUptoSaid : Prop := stepRisesUptoRow.holds Try.pinned (OpenSpec.upto stepRisesSpec)

/-- 'leatlaw34.StepRamps', WHERE WHAT IT READS IS OF BULK AT MOST 1048576: true; the input reads as it did. -/
def stepRampsUptoRow : OpenClaim := { program := "ytfiiifogplhppaa", sum := "043ba875f445c7b0478f7f9bacc8717b0644ffede8ff3d9de84a4e2bc2eee663", func := "leat/leatlaw34.StepRamps", spec := "stepRamps", unfollowed := true, recurses := true, named := ["math/bits.divideError", "math/bits.overflowError"], apart := false, narrowed := true }
def StepRampsUptoSaid : Prop := stepRampsUptoRow.holds Try.pinned (OpenSpec.upto stepRampsSpec)

/-- 'leatlaw33.CoupleRises', WHERE WHAT IT READS IS OF BULK AT MOST 1048576: true; the input reads as it did. -/
def coupleRisesUptoRow : OpenClaim := { program := "ytfiiifogplhppaa", sum := "043ba875f445c7b0478f7f9bacc8717b0644ffede8ff3d9de84a4e2bc2eee663", func := "leat/leatlaw33.CoupleRises", spec := "coupleRises", unfollowed := true, recurses := true, named := ["math/bits.divideError", "math/bits.overflowError"], apart := false, narrowed := true }
def CoupleRisesUptoSaid : Prop := coupleRisesUptoRow.holds Try.pinned (OpenSpec.upto coupleRisesSpec)

/-- 'leatlaw33.CoupleSquares', WHERE WHAT IT READS IS OF BULK AT MOST 1048576: true; the input reads as it did. -/
def coupleSquaresUptoRow : OpenClaim := { program := "ytfiiifogplhppaa", sum := "043ba875f445c7b0478f7f9bacc8717b0644ffede8ff3d9de84a4e2bc2eee663", func := "leat/leatlaw33.CoupleSquares", spec := "coupleSquares", unfollowed := true, recurses := true, named := ["math/bits.divideError", "math/bits.overflowError"], apart := false, narrowed := true }
def CoupleSquaresUptoSaid : Prop := coupleSquaresUptoRow.holds Try.pinned (OpenSpec.upto coupleSquaresSpec)

/-- 'leatlaw33.CoupleShares', WHERE WHAT IT READS IS OF BULK AT MOST 1048576: true; the input reads as it did. -/
def coupleSharesUptoRow : OpenClaim := { program := "ytfiiifogplhppaa", sum := "043ba875f445c7b0478f7f9bacc8717b0644ffede8ff3d9de84a4e2bc2eee663", func := "leat/leatlaw33.CoupleShares", spec := "coupleShares", unfollowed := true, recurses := true, named := ["math/bits.divideError", "math/bits.overflowError"], apart := false, narrowed := true }
def CoupleSharesUptoSaid : Prop := coupleSharesUptoRow.holds Try.pinned (OpenSpec.upto coupleSharesSpec)

/-- 'leatlaw27.ClassicRounds', WHERE WHAT IT READS IS OF BULK AT MOST 1048576: true; the input reads as it did. -/
def classicRoundsUptoRow : OpenClaim := { program := "ytfiiifogplhppaa", sum := "043ba875f445c7b0478f7f9bacc8717b0644ffede8ff3d9de84a4e2bc2eee663", func := "leat/leatlaw27.ClassicRounds", spec := "classicRounds", unfollowed := true, recurses := true, named := ["math/bits.divideError", "math/bits.overflowError"], apart := false, narrowed := true }
def ClassicRoundsUptoSaid : Prop := classicRoundsUptoRow.holds Try.pinned (OpenSpec.upto classicRoundsSpec)

/-- 'leatlaw27.ClassicWaits', WHERE WHAT IT READS IS OF BULK AT MOST 1048576: true; the input reads as it did. -/
def classicWaitsUptoRow : OpenClaim := { program := "ytfiiifogplhppaa", sum := "043ba875f445c7b0478f7f9bacc8717b0644ffede8ff3d9de84a4e2bc2eee663", func := "leat/leatlaw27.ClassicWaits", spec := "classicWaits", unfollowed := true, recurses := true, named := ["math/bits.divideError", "math/bits.overflowError"], apart := false, narrowed := true }
def ClassicWaitsUptoSaid : Prop := classicWaitsUptoRow.holds Try.pinned (OpenSpec.upto classicWaitsSpec)

end Rows
end Go.Proofs.Ytfiiifogplhppaa
