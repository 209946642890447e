/-
  DERIVED. GIVEN WITH THE SEED: THE CARDS: each row of YtdebfnlnpfienaaGreatDoorRows.lean that lists a variable, with what it lists TIED to the program's text (the seventh form; the later family's looks); each row that meets fmt, with fmt's text TOLD by the authors' own Lean function (tested against real Go, not proved from fmt's source: count such statements apart). THE CARD IS WHAT COUNTS. Prove the row's statement (the work); the ties are given (YtdebfnlnpfienaaGreatDoorTie.lean); close each card by the builder's one call (the guide's Derived/Test/ToyasCard.lean, 'card_holds'). Laid BY PROGRAM, IN A SANDBOX (cutbox-door.mjs). By AI agents, Wed Nov 11 2026. No macro, syntax, notation, axiom, sorry.
-/
import Derived.Test.YtdebfnlnpfienaaGreatDoorRows
import GoSem.ClaimSeven
namespace Go.Proofs.YtdebfnlnpfienaaGreatDoor
namespace Rows

/-- THE TIED CARD OF 'cardcaselaw25.KeepRefuses'. -/
def keepRefusesCard : Claim7 := { stood := { row := keepRefusesRow, standIns := [], harness := (true, "1c0372c749d6d3f08d7ba94bbc61336c92e5103352257aa4ad821af869d33f34"), looks := false }, kinds := [], alts := [], laidByText := true, laidKinds := [.data, .pinned], laidTests := true, laidLooks := .later }
def KeepRefusesCardSaid : Prop := Claim7.holds Tryz.pinned (.plain (OpenSpec.ofChange keepRefusesSpec)) keepRefusesCard

/-- THE TIED CARD OF 'cardcaselaw25.KeepWhole'. -/
def keepWholeCard : Claim7 := { stood := { row := keepWholeRow, standIns := [], harness := (true, "1c0372c749d6d3f08d7ba94bbc61336c92e5103352257aa4ad821af869d33f34"), looks := false }, kinds := [], alts := [], laidByText := true, laidKinds := [.data, .pinned], laidTests := true, laidLooks := .later }
def KeepWholeCardSaid : Prop := Claim7.holds Tryz.pinned (.plain (OpenSpec.ofChange keepWholeSpec)) keepWholeCard

/-- THE SECOND FORM's CARD OF 'cardcaselaw25.KeepRefuses'. -/
def keepRefusesUptoCard : Claim7 := { stood := { row := keepRefusesUptoRow, standIns := [], harness := (true, "1c0372c749d6d3f08d7ba94bbc61336c92e5103352257aa4ad821af869d33f34"), looks := false }, kinds := [], alts := [], laidByText := true, laidKinds := [.data, .pinned], laidTests := true, laidLooks := .later }
def KeepRefusesUptoCardSaid : Prop := Claim7.holds Tryz.pinned (.plain (OpenSpec.upto keepRefusesSpec)) keepRefusesUptoCard

/-- THE SECOND FORM's CARD OF 'cardcaselaw25.KeepWhole'. -/
def keepWholeUptoCard : Claim7 := { stood := { row := keepWholeUptoRow, standIns := [], harness := (true, "1c0372c749d6d3f08d7ba94bbc61336c92e5103352257aa4ad821af869d33f34"), looks := false }, kinds := [], alts := [], laidByText := true, laidKinds := [.data, .pinned], laidTests := true, laidLooks := .later }
def KeepWholeUptoCardSaid : Prop := Claim7.holds Tryz.pinned (.plain (OpenSpec.upto keepWholeSpec)) keepWholeUptoCard
end Rows
end Go.Proofs.YtdebfnlnpfienaaGreatDoor
