/-
  No cell of these rows narrows 'for every input' (looked for: loops, veiled, ifaces, maps, wideKeys, modest, calm, conditions, laid).
  DERIVED. THE GIVEN ROWS OF THIS SEAT. 3 by the template 'for every input the law returns true; each argument reads behind the call as it read before'; 0 by the template 'total and deterministic' (their statements: YtbgdkpgegbkfkaaTotals.lean).
  GIVEN WITH THE SEED: the statements are not yours to turn. If you find one false, say at which input.
  Laid BY PROGRAM, IN A SANDBOX (cutbox-rows.mjs): the forced cells as the released guide's own fill.sh prints them over the translation c7960f4ccfaabde4… (all of the seat's roots in one cut). By AI agents, Wed Nov 11 2026. No macro, syntax, notation, axiom, sorry.
-/
import Derived.Test.YtbgdkpgegbkfkaaChecked
import GoSem.Claim
import GoSem.ClaimJoined
import GoSem.ClaimMapViews
import Derived.JoinedTies
import Derived.KernelRfl
namespace Go.Proofs.Ytbgdkpgegbkfkaa
/- THE CELL 'sum', in the pinned program and in every row, IS THE sha256 OF THE DUMP (.gsa) THAT YtbgdkpgegbkfkaaProg.lean LOADS. Nothing in Lean hashes anything: it is a label: what it is worth is what the hold of that sum in a sandbox is worth. -/
noncomputable def Try.pinned : Pinned := { name := "ytbgdkpgegbkfkaa", sum := "c7960f4ccfaabde450c95e89305430ce94e82f4f4551c7c11fc45e24d4e38275", checked := Try.checked }
namespace Rows
def none {H : Type} : Left H := { results := [], args := [] }

/-- 'cardcaselaw23.PlateTorn': WHATEVER THE INPUT: true; the input reads as it did. -/
def plateTornSpec : ChangeSpec := { name := "plateTorn", fn := fun _ => fun
  | [d1, d2, d3] => { results := [.lit (.bool true)], args := [d1, d2, d3] }
  | _ => none }
def plateTornRow : OpenClaim := { program := "ytbgdkpgegbkfkaa", sum := "c7960f4ccfaabde450c95e89305430ce94e82f4f4551c7c11fc45e24d4e38275", func := "cardcase/cardcaselaw23.PlateTorn", spec := "plateTorn", apart := false }
def PlateTornSaid : Prop := plateTornRow.holds Try.pinned (OpenSpec.ofChange plateTornSpec)

/-- ITS FALSE NEIGHBOUR: 'it returns false'. Refute it at one input. -/
def plateTornWrong : ChangeSpec := { name := "plateTorn", fn := fun _ => fun
  | [d1, d2, d3] => { results := [.lit (.bool false)], args := [d1, d2, d3] }
  | _ => none }
def PlateTornWrongFalsely : Prop := plateTornRow.holds Try.pinned (OpenSpec.ofChange plateTornWrong)

/-- 'cardcaselaw23.PlateSure': WHATEVER THE INPUT: true; the input reads as it did. -/
def plateSureSpec : ChangeSpec := { name := "plateSure", fn := fun _ => fun
  | [d1, d2, d3] => { results := [.lit (.bool true)], args := [d1, d2, d3] }
  | _ => none }
def plateSureRow : OpenClaim := { program := "ytbgdkpgegbkfkaa", sum := "c7960f4ccfaabde450c95e89305430ce94e82f4f4551c7c11fc45e24d4e38275", func := "cardcase/cardcaselaw23.PlateSure", spec := "plateSure", apart := false }
def PlateSureSaid : Prop := plateSureRow.holds Try.pinned (OpenSpec.ofChange plateSureSpec)

/-- ITS FALSE NEIGHBOUR: 'it returns false'. Refute it at one input. -/
def plateSureWrong : ChangeSpec := { name := "plateSure", fn := fun _ => fun
  | [d1, d2, d3] => { results := [.lit (.bool false)], args := [d1, d2, d3] }
  | _ => none }
def PlateSureWrongFalsely : Prop := plateSureRow.holds Try.pinned (OpenSpec.ofChange plateSureWrong)

/-- 'cardcaselaw23.PlateDoes': WHATEVER THE INPUT: true; the input reads as it did. -/
def plateDoesSpec : ChangeSpec := { name := "plateDoes", fn := fun _ => fun
  | [d1, d2] => { results := [.lit (.bool true)], args := [d1, d2] }
  | _ => none }
def plateDoesRow : OpenClaim := { program := "ytbgdkpgegbkfkaa", sum := "c7960f4ccfaabde450c95e89305430ce94e82f4f4551c7c11fc45e24d4e38275", func := "cardcase/cardcaselaw23.PlateDoes", spec := "plateDoes", apart := false }
def PlateDoesSaid : Prop := plateDoesRow.holds Try.pinned (OpenSpec.ofChange plateDoesSpec)

/-- ITS FALSE NEIGHBOUR: 'it returns false'. Refute it at one input. -/
def plateDoesWrong : ChangeSpec := { name := "plateDoes", fn := fun _ => fun
  | [d1, d2] => { results := [.lit (.bool false)], args := [d1, d2] }
  | _ => none }
def PlateDoesWrongFalsely : Prop := plateDoesRow.holds Try.pinned (OpenSpec.ofChange plateDoesWrong)

/- THE SECOND FORM. 'bulk': how many values and letters a reading holds, each counted each time it is reached (what is shared counts as often as it is met; a slice's spare places count too). A statement '..UptoSaid' is the law's where the arguments, and the package variables that the reading takes, are together of bulk at most 1048576: NARROWER than '..Said'. Prove '..Said' where nothing that the law and all that it calls make is longer than what came in: it says more and counts as full. Else prove '..UptoSaid'. A law counts once. -/
mutual
def uptoBulk {H : Type} : DataW H → Nat
  | .lit (.string bytes) => bytes.length + 1
  | .lit _ => 1
  | .nil => 1
  | .ptr d => uptoBulk d + 1
  | .slice elems spare => uptoBulkAll elems + uptoBulkAll spare + 1
  | .agg parts => uptoBulkAll parts + 1
  | .iface _ d => uptoBulk d + 1
  | .map entries => uptoBulkEntries entries + 1
  | .held _ => 1
def uptoBulkAll {H : Type} : List (DataW H) → Nat
  | [] => 0
  | d :: r => uptoBulk d + uptoBulkAll r
def uptoBulkEntries {H : Type} : List (Lit × DataW H) → Nat
  | [] => 0
  | x :: r => uptoBulkEntry x + uptoBulkEntries r
def uptoBulkEntry {H : Type} : Lit × DataW H → Nat
  | (.string bytes, d) => bytes.length + uptoBulk d + 1
  | (_, d) => uptoBulk d + 1
 end
def uptoSmall : (H : Type) → List (DataW H) → Bool := fun _ ds => decide (uptoBulkAll ds ≤ 1048576)
def OpenSpec.upto (s : _root_.Go.ChangeSpec) : _root_.Go.OpenSpec := { _root_.Go.OpenSpec.ofChange s with cond := some uptoSmall }

/-- 'cardcaselaw23.PlateTorn', WHERE WHAT IT READS IS OF BULK AT MOST 1048576: true; the input reads as it did. -/
def plateTornUptoRow : OpenClaim := { program := "ytbgdkpgegbkfkaa", sum := "c7960f4ccfaabde450c95e89305430ce94e82f4f4551c7c11fc45e24d4e38275", func := "cardcase/cardcaselaw23.PlateTorn", spec := "plateTorn", apart := false, narrowed := true }
def PlateTornUptoSaid : Prop := plateTornUptoRow.holds Try.pinned (OpenSpec.upto plateTornSpec)

/-- 'cardcaselaw23.PlateSure', WHERE WHAT IT READS IS OF BULK AT MOST 1048576: true; the input reads as it did. -/
def plateSureUptoRow : OpenClaim := { program := "ytbgdkpgegbkfkaa", sum := "c7960f4ccfaabde450c95e89305430ce94e82f4f4551c7c11fc45e24d4e38275", func := "cardcase/cardcaselaw23.PlateSure", spec := "plateSure", apart := false, narrowed := true }
def PlateSureUptoSaid : Prop := plateSureUptoRow.holds Try.pinned (OpenSpec.upto plateSureSpec)

/-- 'cardcaselaw23.PlateDoes', WHERE WHAT IT READS IS OF BULK AT MOST 1048576: true; the input reads as it did. -/
def plateDoesUptoRow : OpenClaim := { program := "ytbgdkpgegbkfkaa", sum := "c7960f4ccfaabde450c95e89305430ce94e82f4f4551c7c11fc45e24d4e38275", func := "cardcase/cardcaselaw23.PlateDoes", spec := "plateDoes", apart := false, narrowed := true }
def PlateDoesUptoSaid : Prop := plateDoesUptoRow.holds Try.pinned (OpenSpec.upto plateDoesSpec)

end Rows
end Go.Proofs.Ytbgdkpgegbkfkaa
