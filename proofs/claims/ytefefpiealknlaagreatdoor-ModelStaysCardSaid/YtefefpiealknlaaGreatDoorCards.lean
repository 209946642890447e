/-
  DERIVED. GIVEN WITH THE SEED: THE CARDS: each row of YtefefpiealknlaaGreatDoorRows.lean that lists a variable, with what it lists TIED to the program's text (the seventh form; the later family's looks); each row that meets fmt, with fmt's text TOLD by the authors' own Lean function (tested against real Go, not proved from fmt's source: count such statements apart). THE CARD IS WHAT COUNTS. Prove the row's statement (the work); the ties are given (YtefefpiealknlaaGreatDoorTie.lean); close each card by the builder's one call (the guide's Derived/Test/ToyasCard.lean, 'card_holds'). Laid BY PROGRAM, IN A SANDBOX (cutbox-door.mjs). By AI agents, Wed Nov 11 2026. No macro, syntax, notation, axiom, sorry.
-/
import Derived.Test.YtefefpiealknlaaGreatDoorRows
import GoSem.ClaimSeven
namespace Go.Proofs.YtefefpiealknlaaGreatDoor
namespace Rows

/-- THE TIED CARD OF 'cardcaselaw35.ModelStays'. -/
def modelStaysCard : Claim7 := { stood := { row := modelStaysRow, standIns := [], harness := (true, "686f930323c03c473b839205690e13e9d3c4569f10a2a7477d9b69f335f3148a"), looks := false }, kinds := [], alts := [], laidByText := true, laidKinds := [.data, .pinned], laidTests := true, laidLooks := .later }
def ModelStaysCardSaid : Prop := Claim7.holds Tryz.pinned (.plain (OpenSpec.ofChange modelStaysSpec)) modelStaysCard

/-- THE SECOND FORM's CARD OF 'cardcaselaw35.ModelStays'. -/
def modelStaysUptoCard : Claim7 := { stood := { row := modelStaysUptoRow, standIns := [], harness := (true, "686f930323c03c473b839205690e13e9d3c4569f10a2a7477d9b69f335f3148a"), looks := false }, kinds := [], alts := [], laidByText := true, laidKinds := [.data, .pinned], laidTests := true, laidLooks := .later }
def ModelStaysUptoCardSaid : Prop := Claim7.holds Tryz.pinned (.plain (OpenSpec.upto modelStaysSpec)) modelStaysUptoCard
end Rows
end Go.Proofs.YtefefpiealknlaaGreatDoor
