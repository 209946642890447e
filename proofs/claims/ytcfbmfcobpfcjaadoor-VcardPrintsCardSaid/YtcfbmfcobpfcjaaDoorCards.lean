/-
  DERIVED. GIVEN WITH THE SEED: THE CARDS: each row of YtcfbmfcobpfcjaaDoorRows.lean that lists a variable, with what it lists TIED to the program's text (the seventh form; the later family's looks); each row that meets fmt, with fmt's text TOLD by the authors' own Lean function (tested against real Go, not proved from fmt's source: count such statements apart). THE CARD IS WHAT COUNTS. Prove the row's statement (the work); the ties are given (YtcfbmfcobpfcjaaDoorTie.lean); close each card by the builder's one call (the guide's Derived/Test/ToyasCard.lean, 'card_holds'). Laid BY PROGRAM, IN A SANDBOX (cutbox-door.mjs). By AI agents, Wed Nov 11 2026. No macro, syntax, notation, axiom, sorry.
-/
import Derived.Test.YtcfbmfcobpfcjaaDoorRows
import GoSem.ClaimSeven
namespace Go.Proofs.YtcfbmfcobpfcjaaDoor
namespace Rows

/-- THE TIED CARD OF 'cardcaselaw10.VcardPrints'. -/
def vcardPrintsCard : Claim7 := { stood := { row := vcardPrintsRow, standIns := [], harness := (true, "2d51e6af1ae4d82681ab956e7cf14ea32012c7e48866f86215193eb5369f2fb9"), looks := false }, kinds := [], alts := [], laidByText := true, laidKinds := [.data, .pinned], laidTests := true, laidLooks := .later }
def VcardPrintsCardSaid : Prop := Claim7.holds Tryd.pinned (.plain (OpenSpec.ofChange vcardPrintsSpec)) vcardPrintsCard

/-- THE SECOND FORM's CARD OF 'cardcaselaw10.VcardPrints'. -/
def vcardPrintsUptoCard : Claim7 := { stood := { row := vcardPrintsUptoRow, standIns := [], harness := (true, "2d51e6af1ae4d82681ab956e7cf14ea32012c7e48866f86215193eb5369f2fb9"), looks := false }, kinds := [], alts := [], laidByText := true, laidKinds := [.data, .pinned], laidTests := true, laidLooks := .later }
def VcardPrintsUptoCardSaid : Prop := Claim7.holds Tryd.pinned (.plain (OpenSpec.upto vcardPrintsSpec)) vcardPrintsUptoCard
end Rows
end Go.Proofs.YtcfbmfcobpfcjaaDoor
