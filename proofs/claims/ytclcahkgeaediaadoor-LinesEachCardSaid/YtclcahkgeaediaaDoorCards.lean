/-
  DERIVED. GIVEN WITH THE SEED: THE CARDS: each row of YtclcahkgeaediaaDoorRows.lean that lists a variable, with what it lists TIED to the program's text (the seventh form; the later family's looks); each row that meets fmt, with fmt's text TOLD by the authors' own Lean function (tested against real Go, not proved from fmt's source: count such statements apart). THE CARD IS WHAT COUNTS. Prove the row's statement (the work); the ties are given (YtclcahkgeaediaaDoorTie.lean); close each card by the builder's one call (the guide's Derived/Test/ToyasCard.lean, 'card_holds'). Laid BY PROGRAM, IN A SANDBOX (cutbox-door.mjs). By AI agents, Wed Nov 11 2026. No macro, syntax, notation, axiom, sorry.
-/
import Derived.Test.YtclcahkgeaediaaDoorRows
import GoSem.ClaimSeven
namespace Go.Proofs.YtclcahkgeaediaaDoor
namespace Rows

/-- THE TIED CARD OF 'cardcaselaw07.LinesFold'. -/
def linesFoldCard : Claim7 := { stood := { row := linesFoldRow, standIns := [], harness := (true, "6ea0812c6cc180f32650fcbe189712a667bc5f371c0564d4e933e40f8f18d90c"), looks := false }, kinds := [], alts := [], laidByText := true, laidKinds := [.data, .pinned], laidTests := true, laidLooks := .later }
def LinesFoldCardSaid : Prop := Claim7.holds Tryd.pinned (.plain (OpenSpec.ofChange linesFoldSpec)) linesFoldCard

/-- THE TIED CARD OF 'cardcaselaw07.LinesEach'. -/
def linesEachCard : Claim7 := { stood := { row := linesEachRow, standIns := [], harness := (true, "6ea0812c6cc180f32650fcbe189712a667bc5f371c0564d4e933e40f8f18d90c"), looks := false }, kinds := [], alts := [], laidByText := true, laidKinds := [.data, .pinned], laidTests := true, laidLooks := .later }
def LinesEachCardSaid : Prop := Claim7.holds Tryd.pinned (.plain (OpenSpec.ofChange linesEachSpec)) linesEachCard

/-- THE SECOND FORM's CARD OF 'cardcaselaw07.LinesFold'. -/
def linesFoldUptoCard : Claim7 := { stood := { row := linesFoldUptoRow, standIns := [], harness := (true, "6ea0812c6cc180f32650fcbe189712a667bc5f371c0564d4e933e40f8f18d90c"), looks := false }, kinds := [], alts := [], laidByText := true, laidKinds := [.data, .pinned], laidTests := true, laidLooks := .later }
def LinesFoldUptoCardSaid : Prop := Claim7.holds Tryd.pinned (.plain (OpenSpec.upto linesFoldSpec)) linesFoldUptoCard

/-- THE SECOND FORM's CARD OF 'cardcaselaw07.LinesEach'. -/
def linesEachUptoCard : Claim7 := { stood := { row := linesEachUptoRow, standIns := [], harness := (true, "6ea0812c6cc180f32650fcbe189712a667bc5f371c0564d4e933e40f8f18d90c"), looks := false }, kinds := [], alts := [], laidByText := true, laidKinds := [.data, .pinned], laidTests := true, laidLooks := .later }
def LinesEachUptoCardSaid : Prop := Claim7.holds Tryd.pinned (.plain (OpenSpec.upto linesEachSpec)) linesEachUptoCard
end Rows
end Go.Proofs.YtclcahkgeaediaaDoor
