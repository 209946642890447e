/-
  No cell of these rows narrows 'for every input' (looked for: loops, veiled, ifaces, maps, wideKeys, modest, calm, conditions, laid).
  DERIVED. THE GIVEN ROWS OF THIS SEAT. 4 by the template 'for every input the law returns true; each argument reads behind the call as it read before'; 0 by the template 'total and deterministic' (their statements: YtjcglbopggcmdaaTotals.lean).
  GIVEN WITH THE SEED: the statements are not yours to turn. If you find one false, say at which input.
  Laid BY PROGRAM, IN A SANDBOX (cutbox-rows.mjs): the forced cells as the released guide's own fill.sh prints them over the translation e7c704ea676c189a… (all of the seat's roots in one cut). By AI agents, Wed Nov 11 2026. No macro, syntax, notation, axiom, sorry.
-/
import Derived.Test.YtjcglbopggcmdaaChecked
import GoSem.Claim
import GoSem.ClaimJoined
import GoSem.ClaimMapViews
import Derived.JoinedTies
import Derived.KernelRfl
namespace Go.Proofs.Ytjcglbopggcmdaa
/- THE CELL 'sum', in the pinned program and in every row, IS THE sha256 OF THE DUMP (.gsa) THAT YtjcglbopggcmdaaProg.lean LOADS. Nothing in Lean hashes anything: it is a label: what it is worth is what the hold of that sum in a sandbox is worth. -/
noncomputable def Try.pinned : Pinned := { name := "ytjcglbopggcmdaa", sum := "e7c704ea676c189a95436722c073540207b1dad855f9d5b7f0c4677c121e341b", checked := Try.checked }
namespace Rows
def none {H : Type} : Left H := { results := [], args := [] }

/-- 'cardcaselaw04.QuotedWrites': WHATEVER THE INPUT: true; the input reads as it did. -/
def quotedWritesSpec : ChangeSpec := { name := "quotedWrites", fn := fun _ => fun
  | [d] => { results := [.lit (.bool true)], args := [d] }
  | _ => none }
def quotedWritesRow : OpenClaim := { program := "ytjcglbopggcmdaa", sum := "e7c704ea676c189a95436722c073540207b1dad855f9d5b7f0c4677c121e341b", func := "cardcase/cardcaselaw04.QuotedWrites", spec := "quotedWrites", inPlace := ["internal/abi.NoEscape"], apart := false }
def QuotedWritesSaid : Prop := quotedWritesRow.holds Try.pinned (OpenSpec.ofChange quotedWritesSpec)

/-- ITS FALSE NEIGHBOUR: 'it returns false'. Refute it at one input. -/
def quotedWritesWrong : ChangeSpec := { name := "quotedWrites", fn := fun _ => fun
  | [d] => { results := [.lit (.bool false)], args := [d] }
  | _ => none }
def QuotedWritesWrongFalsely : Prop := quotedWritesRow.holds Try.pinned (OpenSpec.ofChange quotedWritesWrong)

/-- 'cardcaselaw04.QuotedReads': WHATEVER THE INPUT: true; the input reads as it did. -/
def quotedReadsSpec : ChangeSpec := { name := "quotedReads", fn := fun _ => fun
  | [d] => { results := [.lit (.bool true)], args := [d] }
  | _ => none }
def quotedReadsRow : OpenClaim := { program := "ytjcglbopggcmdaa", sum := "e7c704ea676c189a95436722c073540207b1dad855f9d5b7f0c4677c121e341b", func := "cardcase/cardcaselaw04.QuotedReads", spec := "quotedReads", inPlace := ["internal/abi.NoEscape"], apart := false }
def QuotedReadsSaid : Prop := quotedReadsRow.holds Try.pinned (OpenSpec.ofChange quotedReadsSpec)

/-- ITS FALSE NEIGHBOUR: 'it returns false'. Refute it at one input. -/
def quotedReadsWrong : ChangeSpec := { name := "quotedReads", fn := fun _ => fun
  | [d] => { results := [.lit (.bool false)], args := [d] }
  | _ => none }
def QuotedReadsWrongFalsely : Prop := quotedReadsRow.holds Try.pinned (OpenSpec.ofChange quotedReadsWrong)

/-- 'cardcaselaw04.QuotedSoft': WHATEVER THE INPUT: true; the input reads as it did. -/
def quotedSoftSpec : ChangeSpec := { name := "quotedSoft", fn := fun _ => fun
  | [d1, d2] => { results := [.lit (.bool true)], args := [d1, d2] }
  | _ => none }
def quotedSoftRow : OpenClaim := { program := "ytjcglbopggcmdaa", sum := "e7c704ea676c189a95436722c073540207b1dad855f9d5b7f0c4677c121e341b", func := "cardcase/cardcaselaw04.QuotedSoft", spec := "quotedSoft", inPlace := ["internal/abi.NoEscape"], apart := false }
def QuotedSoftSaid : Prop := quotedSoftRow.holds Try.pinned (OpenSpec.ofChange quotedSoftSpec)

/-- ITS FALSE NEIGHBOUR: 'it returns false'. Refute it at one input. -/
def quotedSoftWrong : ChangeSpec := { name := "quotedSoft", fn := fun _ => fun
  | [d1, d2] => { results := [.lit (.bool false)], args := [d1, d2] }
  | _ => none }
def QuotedSoftWrongFalsely : Prop := quotedSoftRow.holds Try.pinned (OpenSpec.ofChange quotedSoftWrong)

/-- 'cardcaselaw04.QuotedBack': WHATEVER THE INPUT: true; the input reads as it did. -/
def quotedBackSpec : ChangeSpec := { name := "quotedBack", fn := fun _ => fun
  | [d1, d2] => { results := [.lit (.bool true)], args := [d1, d2] }
  | _ => none }
def quotedBackRow : OpenClaim := { program := "ytjcglbopggcmdaa", sum := "e7c704ea676c189a95436722c073540207b1dad855f9d5b7f0c4677c121e341b", func := "cardcase/cardcaselaw04.QuotedBack", spec := "quotedBack", inPlace := ["internal/abi.NoEscape"], apart := false }
def QuotedBackSaid : Prop := quotedBackRow.holds Try.pinned (OpenSpec.ofChange quotedBackSpec)

/-- ITS FALSE NEIGHBOUR: 'it returns false'. Refute it at one input. -/
def quotedBackWrong : ChangeSpec := { name := "quotedBack", fn := fun _ => fun
  | [d1, d2] => { results := [.lit (.bool false)], args := [d1, d2] }
  | _ => none }
def QuotedBackWrongFalsely : Prop := quotedBackRow.holds Try.pinned (OpenSpec.ofChange quotedBackWrong)

/- THE SECOND FORM. 'bulk': how many values and letters a reading holds, each counted each time it is reached (what is shared counts as often as it is met; a slice's spare places count too). A statement '..UptoSaid' is the law's where the arguments, and the package variables that the reading takes, are together of bulk at most 1048576: NARROWER than '..Said'. Prove '..Said' where nothing that the law and all that it calls make is longer than what came in: it says more and counts as full. Else prove '..UptoSaid'. A law counts once. -/
mutual
def uptoBulk {H : Type} : DataW H → Nat
  | .lit (.string bytes) => bytes.length + 1
  | .lit _ => 1
  | .nil => 1
  | .ptr d => uptoBulk d + 1
  | .slice elems spare => uptoBulkAll elems + uptoBulkAll spare + 1
  | .agg parts => uptoBulkAll parts + 1
  | .iface _ d => uptoBulk d + 1
  | .map entries => uptoBulkEntries entries + 1
  | .held _ => 1
def uptoBulkAll {H : Type} : List (DataW H) → Nat
  | [] => 0
  | d :: r => uptoBulk d + uptoBulkAll r
def uptoBulkEntries {H : Type} : List (Lit × DataW H) → Nat
  | [] => 0
  | x :: r => uptoBulkEntry x + uptoBulkEntries r
def uptoBulkEntry {H : Type} : Lit × DataW H → Nat
  | (.string bytes, d) => bytes.length + uptoBulk d + 1
  | (_, d) => uptoBulk d + 1
 end
def uptoSmall : (H : Type) → List (DataW H) → Bool := fun _ ds => decide (uptoBulkAll ds ≤ 1048576)
def OpenSpec.upto (s : _root_.Go.ChangeSpec) : _root_.Go.OpenSpec := { _root_.Go.OpenSpec.ofChange s with cond := some uptoSmall }

/-- 'cardcaselaw04.QuotedWrites', WHERE WHAT IT READS IS OF BULK AT MOST 1048576: true; the input reads as it did. -/
def quotedWritesUptoRow : OpenClaim := { program := "ytjcglbopggcmdaa", sum := "e7c704ea676c189a95436722c073540207b1dad855f9d5b7f0c4677c121e341b", func := "cardcase/cardcaselaw04.QuotedWrites", spec := "quotedWrites", inPlace := ["internal/abi.NoEscape"], apart := false, narrowed := true }
def QuotedWritesUptoSaid : Prop := quotedWritesUptoRow.holds Try.pinned (OpenSpec.upto quotedWritesSpec)

/-- 'cardcaselaw04.QuotedReads', WHERE WHAT IT READS IS OF BULK AT MOST 1048576: true; the input reads as it did. -/
def quotedReadsUptoRow : OpenClaim := { program := "ytjcglbopggcmdaa", sum := "e7c704ea676c189a95436722c073540207b1dad855f9d5b7f0c4677c121e341b", func := "cardcase/cardcaselaw04.QuotedReads", spec := "quotedReads", inPlace := ["internal/abi.NoEscape"], apart := false, narrowed := true }
def QuotedReadsUptoSaid : Prop := quotedReadsUptoRow.holds Try.pinned (OpenSpec.upto quotedReadsSpec)

/-- 'cardcaselaw04.QuotedSoft', WHERE WHAT IT READS IS OF BULK AT MOST 1048576: true; the input reads as it did. -/
def quotedSoftUptoRow : OpenClaim := { program := "ytjcglbopggcmdaa", sum := "e7c704ea676c189a95436722c073540207b1dad855f9d5b7f0c4677c121e341b", func := "cardcase/cardcaselaw04.QuotedSoft", spec := "quotedSoft", inPlace := ["internal/abi.NoEscape"], apart := false, narrowed := true }
def QuotedSoftUptoSaid : Prop := quotedSoftUptoRow.holds Try.pinned (OpenSpec.upto quotedSoftSpec)

/-- 'cardcaselaw04.QuotedBack', WHERE WHAT IT READS IS OF BULK AT MOST 1048576: true; the input reads as it did. -/
def quotedBackUptoRow : OpenClaim := { program := "ytjcglbopggcmdaa", sum := "e7c704ea676c189a95436722c073540207b1dad855f9d5b7f0c4677c121e341b", func := "cardcase/cardcaselaw04.QuotedBack", spec := "quotedBack", inPlace := ["internal/abi.NoEscape"], apart := false, narrowed := true }
def QuotedBackUptoSaid : Prop := quotedBackUptoRow.holds Try.pinned (OpenSpec.upto quotedBackSpec)

end Rows
end Go.Proofs.Ytjcglbopggcmdaa
