/-
  NARROWER THAN 'FOR EVERY INPUT', by the rows' own cells (each row's printed sentence says how): PropParams: loops · PropTells: loops · PropBack: loops.
  DERIVED. THE GIVEN ROWS OF THIS SEAT. 4 by the template 'for every input the law returns true; each argument reads behind the call as it read before'; 0 by the template 'total and deterministic' (their statements: YtioeobkneikgfaaTotals.lean).
  GIVEN WITH THE SEED: the statements are not yours to turn. If you find one false, say at which input.
  Laid BY PROGRAM, IN A SANDBOX (cutbox-rows.mjs): the forced cells as the released guide's own fill.sh prints them over the translation 685537d10ccb5f0d… (all of the seat's roots in one cut). By AI agents, Wed Nov 11 2026. No macro, syntax, notation, axiom, sorry.
-/
import Derived.Test.YtioeobkneikgfaaChecked
import GoSem.Claim
import GoSem.ClaimJoined
import GoSem.ClaimMapViews
import Derived.JoinedTies
import Derived.KernelRfl
namespace Go.Proofs.Ytioeobkneikgfaa
/- THE CELL 'sum', in the pinned program and in every row, IS THE sha256 OF THE DUMP (.gsa) THAT YtioeobkneikgfaaProg.lean LOADS. Nothing in Lean hashes anything: it is a label: what it is worth is what the hold of that sum in a sandbox is worth. -/
noncomputable def Try.pinned : Pinned := { name := "ytioeobkneikgfaa", sum := "685537d10ccb5f0d873caa34889d412842d8eca8cd29218b08e88e97175d2425", checked := Try.checked }
namespace Rows
def none {H : Type} : Left H := { results := [], args := [] }

/-- 'cardcaselaw08.PropParams': WHATEVER THE INPUT: true; the input reads as it did. -/
def propParamsSpec : ChangeSpec := { name := "propParams", fn := fun _ => fun
  | [d1, d2] => { results := [.lit (.bool true)], args := [d1, d2] }
  | _ => none }
def propParamsRow : OpenClaim := { program := "ytioeobkneikgfaa", sum := "685537d10ccb5f0d873caa34889d412842d8eca8cd29218b08e88e97175d2425", func := "cardcase/cardcaselaw08.PropParams", spec := "propParams", unfollowed := true, recurses := true, loops := true, apart := false }
def PropParamsSaid : Prop := propParamsRow.holds Try.pinned (OpenSpec.ofChange propParamsSpec)

/-- ITS FALSE NEIGHBOUR: 'it returns false'. Refute it at one input. -/
def propParamsWrong : ChangeSpec := { name := "propParams", fn := fun _ => fun
  | [d1, d2] => { results := [.lit (.bool false)], args := [d1, d2] }
  | _ => none }
def PropParamsWrongFalsely : Prop := propParamsRow.holds Try.pinned (OpenSpec.ofChange propParamsWrong)

/-- 'cardcaselaw08.PropTells': WHATEVER THE INPUT: true; the input reads as it did. -/
def propTellsSpec : ChangeSpec := { name := "propTells", fn := fun _ => fun
  | [d1, d2] => { results := [.lit (.bool true)], args := [d1, d2] }
  | _ => none }
def propTellsRow : OpenClaim := { program := "ytioeobkneikgfaa", sum := "685537d10ccb5f0d873caa34889d412842d8eca8cd29218b08e88e97175d2425", func := "cardcase/cardcaselaw08.PropTells", spec := "propTells", inPlace := ["internal/bytealg.IndexByteString", "internal/bytealg.IndexString", "internal/abi.NoEscape"], unfollowed := true, recurses := true, named := ["internal/bytealg.MaxLen"], loops := true, apart := false }
def PropTellsSaid : Prop := propTellsRow.holds Try.pinned (OpenSpec.ofChange propTellsSpec)

/-- ITS FALSE NEIGHBOUR: 'it returns false'. Refute it at one input. -/
def propTellsWrong : ChangeSpec := { name := "propTells", fn := fun _ => fun
  | [d1, d2] => { results := [.lit (.bool false)], args := [d1, d2] }
  | _ => none }
def PropTellsWrongFalsely : Prop := propTellsRow.holds Try.pinned (OpenSpec.ofChange propTellsWrong)

/-- 'cardcaselaw08.PropReads': WHATEVER THE INPUT: true; the input reads as it did. -/
def propReadsSpec : ChangeSpec := { name := "propReads", fn := fun _ => fun
  | [d] => { results := [.lit (.bool true)], args := [d] }
  | _ => none }
def propReadsRow : OpenClaim := { program := "ytioeobkneikgfaa", sum := "685537d10ccb5f0d873caa34889d412842d8eca8cd29218b08e88e97175d2425", func := "cardcase/cardcaselaw08.PropReads", spec := "propReads", inPlace := ["internal/bytealg.IndexByteString", "internal/bytealg.IndexString"], unfollowed := true, recurses := true, named := ["internal/bytealg.MaxLen"], apart := false }
def PropReadsSaid : Prop := propReadsRow.holds Try.pinned (OpenSpec.ofChange propReadsSpec)

/-- ITS FALSE NEIGHBOUR: 'it returns false'. Refute it at one input. -/
def propReadsWrong : ChangeSpec := { name := "propReads", fn := fun _ => fun
  | [d] => { results := [.lit (.bool false)], args := [d] }
  | _ => none }
def PropReadsWrongFalsely : Prop := propReadsRow.holds Try.pinned (OpenSpec.ofChange propReadsWrong)

/-- 'cardcaselaw08.PropBack': WHATEVER THE INPUT: true; the input reads as it did. -/
def propBackSpec : ChangeSpec := { name := "propBack", fn := fun _ => fun
  | [d1, d2] => { results := [.lit (.bool true)], args := [d1, d2] }
  | _ => none }
def propBackRow : OpenClaim := { program := "ytioeobkneikgfaa", sum := "685537d10ccb5f0d873caa34889d412842d8eca8cd29218b08e88e97175d2425", func := "cardcase/cardcaselaw08.PropBack", spec := "propBack", inPlace := ["internal/bytealg.IndexByteString", "internal/bytealg.IndexString", "internal/abi.NoEscape"], unfollowed := true, recurses := true, named := ["internal/bytealg.MaxLen"], loops := true, apart := false }
def PropBackSaid : Prop := propBackRow.holds Try.pinned (OpenSpec.ofChange propBackSpec)

/-- ITS FALSE NEIGHBOUR: 'it returns false'. Refute it at one input. -/
def propBackWrong : ChangeSpec := { name := "propBack", fn := fun _ => fun
  | [d1, d2] => { results := [.lit (.bool false)], args := [d1, d2] }
  | _ => none }
def PropBackWrongFalsely : Prop := propBackRow.holds Try.pinned (OpenSpec.ofChange propBackWrong)

/- THE SECOND FORM. 'bulk': how many values and letters a reading holds, each counted each time it is reached (what is shared counts as often as it is met; a slice's spare places count too). A statement '..UptoSaid' is the law's where the arguments, and the package variables that the reading takes, are together of bulk at most 1048576: NARROWER than '..Said'. Prove '..Said' where nothing that the law and all that it calls make is longer than what came in: it says more and counts as full. Else prove '..UptoSaid'. A law counts once. -/
mutual
def uptoBulk {H : Type} : DataW H → Nat
  | .lit (.string bytes) => bytes.length + 1
  | .lit _ => 1
  | .nil => 1
  | .ptr d => uptoBulk d + 1
  | .slice elems spare => uptoBulkAll elems + uptoBulkAll spare + 1
  | .agg parts => uptoBulkAll parts + 1
  | .iface _ d => uptoBulk d + 1
  | .map entries => uptoBulkEntries entries + 1
  | .held _ => 1
def uptoBulkAll {H : Type} : List (DataW H) → Nat
  | [] => 0
  | d :: r => uptoBulk d + uptoBulkAll r
def uptoBulkEntries {H : Type} : List (Lit × DataW H) → Nat
  | [] => 0
  | x :: r => uptoBulkEntry x + uptoBulkEntries r
def uptoBulkEntry {H : Type} : Lit × DataW H → Nat
  | (.string bytes, d) => bytes.length + uptoBulk d + 1
  | (_, d) => uptoBulk d + 1
 end
def uptoSmall : (H : Type) → List (DataW H) → Bool := fun _ ds => decide (uptoBulkAll ds ≤ 1048576)
def OpenSpec.upto (s : _root_.Go.ChangeSpec) : _root_.Go.OpenSpec := { _root_.Go.OpenSpec.ofChange s with cond := some uptoSmall }

/-- 'cardcaselaw08.PropParams', WHERE WHAT IT READS IS OF BULK AT MOST 1048576: true; the input reads as it did. -/
def propParamsUptoRow : OpenClaim := { program := "ytioeobkneikgfaa", sum := "685537d10ccb5f0d873caa34889d412842d8eca8cd29218b08e88e97175d2425", func := "cardcase/cardcaselaw08.PropParams", spec := "propParams", unfollowed := true, recurses := true, loops := true, apart := false, narrowed := true }
def PropParamsUptoSaid : Prop := propParamsUptoRow.holds Try.pinned (OpenSpec.upto propParamsSpec)

/-- 'cardcaselaw08.PropTells', WHERE WHAT IT READS IS OF BULK AT MOST 1048576: true; the input reads as it did. -/
def propTellsUptoRow : OpenClaim := { program := "ytioeobkneikgfaa", sum := "685537d10ccb5f0d873caa34889d412842d8eca8cd29218b08e88e97175d2425", func := "cardcase/cardcaselaw08.PropTells", spec := "propTells", inPlace := ["internal/bytealg.IndexByteString", "internal/bytealg.IndexString", "internal/abi.NoEscape"], unfollowed := true, recurses := true, named := ["internal/bytealg.MaxLen"], loops := true, apart := false, narrowed := true }
def PropTellsUptoSaid : Prop := propTellsUptoRow.holds Try.pinned (OpenSpec.upto propTellsSpec)

/-- 'cardcaselaw08.PropReads', WHERE WHAT IT READS IS OF BULK AT MOST 1048576: true; the input reads as it did. -/
def propReadsUptoRow : OpenClaim := { program := "ytioeobkneikgfaa", sum := "685537d10ccb5f0d873caa34889d412842d8eca8cd29218b08e88e97175d2425", func := "cardcase/cardcaselaw08.PropReads", spec := "propReads", inPlace := ["internal/bytealg.IndexByteString", "internal/bytealg.IndexString"], unfollowed := true, recurses := true, named := ["internal/bytealg.MaxLen"], apart := false, narrowed := true }
def PropReadsUptoSaid : Prop := propReadsUptoRow.holds Try.pinned (OpenSpec.upto propReadsSpec)

/-- 'cardcaselaw08.PropBack', WHERE WHAT IT READS IS OF BULK AT MOST 1048576: true; the input reads as it did. -/
def propBackUptoRow : OpenClaim := { program := "ytioeobkneikgfaa", sum := "685537d10ccb5f0d873caa34889d412842d8eca8cd29218b08e88e97175d2425", func := "cardcase/cardcaselaw08.PropBack", spec := "propBack", inPlace := ["internal/bytealg.IndexByteString", "internal/bytealg.IndexString", "internal/abi.NoEscape"], unfollowed := true, recurses := true, named := ["internal/bytealg.MaxLen"], loops := true, apart := false, narrowed := true }
def PropBackUptoSaid : Prop := propBackUptoRow.holds Try.pinned (OpenSpec.upto propBackSpec)

end Rows
end Go.Proofs.Ytioeobkneikgfaa
