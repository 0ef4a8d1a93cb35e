/-
  DERIVED. GIVEN WITH THE SEED: THE CARDS: each row of YtdoiofdepmiejaaDoorRows.lean that lists a variable, with what it lists TIED to the program's text (the seventh form; the later family's looks); each row that meets fmt, with fmt's text TOLD by the authors' own Lean function (tested against real Go, not proved from fmt's source: count such statements apart). THE CARD IS WHAT COUNTS. Prove the row's statement (the work); the ties are given (YtdoiofdepmiejaaDoorTie.lean); close each card by the builder's one call (the guide's Derived/Test/ToyasCard.lean, 'card_holds'). Laid BY PROGRAM, IN A SANDBOX (cutbox-door.mjs). By AI agents, Wed Nov 11 2026. No macro, syntax, notation, axiom, sorry.
-/
import Derived.Test.YtdoiofdepmiejaaDoorRows
import GoSem.ClaimSeven
namespace Go.Proofs.YtdoiofdepmiejaaDoor
namespace Rows

/-- THE TIED CARD OF 'leatlaw52.StatsRanks'. -/
def statsRanksCard : Claim7 := { stood := { row := statsRanksRow, standIns := [], harness := (true, "594a36442acde7f54d89b5d66c8ff68d20b0cbefcac140be8e99fc4a3d64e04c"), looks := false }, kinds := [], alts := [], laidByText := true, laidKinds := [.data, .data, .data], laidTests := true, laidLooks := .later }
def StatsRanksCardSaid : Prop := Claim7.holds Tryd.pinned (.plain (OpenSpec.ofChange statsRanksSpec)) statsRanksCard

/-- THE TIED CARD OF 'leatlaw52.StatsShows'. -/
def statsShowsCard : Claim7 := { stood := { row := statsShowsRow, standIns := [], harness := (true, "594a36442acde7f54d89b5d66c8ff68d20b0cbefcac140be8e99fc4a3d64e04c"), looks := false }, kinds := [], alts := [], laidByText := true, laidKinds := [.data, .data, .data], laidTests := true, laidLooks := .later }
def StatsShowsCardSaid : Prop := Claim7.holds Tryd.pinned (.plain (OpenSpec.ofChange statsShowsSpec)) statsShowsCard

/-- THE TIED CARD OF 'leatlaw52.StatsRises'. -/
def statsRisesCard : Claim7 := { stood := { row := statsRisesRow, standIns := [], harness := (true, "594a36442acde7f54d89b5d66c8ff68d20b0cbefcac140be8e99fc4a3d64e04c"), looks := false }, kinds := [], alts := [], laidByText := true, laidKinds := [.data, .data, .data], laidTests := true, laidLooks := .later }
def StatsRisesCardSaid : Prop := Claim7.holds Tryd.pinned (.plain (OpenSpec.ofChange statsRisesSpec)) statsRisesCard

/-- THE SECOND FORM's CARD OF 'leatlaw52.StatsRanks'. -/
def statsRanksUptoCard : Claim7 := { stood := { row := statsRanksUptoRow, standIns := [], harness := (true, "594a36442acde7f54d89b5d66c8ff68d20b0cbefcac140be8e99fc4a3d64e04c"), looks := false }, kinds := [], alts := [], laidByText := true, laidKinds := [.data, .data, .data], laidTests := true, laidLooks := .later }
def StatsRanksUptoCardSaid : Prop := Claim7.holds Tryd.pinned (.plain (OpenSpec.upto statsRanksSpec)) statsRanksUptoCard

/-- THE SECOND FORM's CARD OF 'leatlaw52.StatsShows'. -/
def statsShowsUptoCard : Claim7 := { stood := { row := statsShowsUptoRow, standIns := [], harness := (true, "594a36442acde7f54d89b5d66c8ff68d20b0cbefcac140be8e99fc4a3d64e04c"), looks := false }, kinds := [], alts := [], laidByText := true, laidKinds := [.data, .data, .data], laidTests := true, laidLooks := .later }
def StatsShowsUptoCardSaid : Prop := Claim7.holds Tryd.pinned (.plain (OpenSpec.upto statsShowsSpec)) statsShowsUptoCard

/-- THE SECOND FORM's CARD OF 'leatlaw52.StatsRises'. -/
def statsRisesUptoCard : Claim7 := { stood := { row := statsRisesUptoRow, standIns := [], harness := (true, "594a36442acde7f54d89b5d66c8ff68d20b0cbefcac140be8e99fc4a3d64e04c"), looks := false }, kinds := [], alts := [], laidByText := true, laidKinds := [.data, .data, .data], laidTests := true, laidLooks := .later }
def StatsRisesUptoCardSaid : Prop := Claim7.holds Tryd.pinned (.plain (OpenSpec.upto statsRisesSpec)) statsRisesUptoCard
end Rows
end Go.Proofs.YtdoiofdepmiejaaDoor
