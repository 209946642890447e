/-
  No cell of these rows narrows 'for every input' (looked for: loops, veiled, ifaces, maps, wideKeys, modest, calm, conditions, laid).
  DERIVED. THE GIVEN ROWS OF THIS SEAT. 5 by the template 'for every input the law returns true; each argument reads behind the call as it read before'; 0 by the template 'total and deterministic' (their statements: YtkmkedmefhmnaaaTotals.lean).
  GIVEN WITH THE SEED: the statements are not yours to turn. If you find one false, say at which input.
  Laid BY PROGRAM, IN A SANDBOX (cutbox-rows.mjs): the forced cells as the released guide's own fill.sh prints them over the translation 136a40903a859637… (all of the seat's roots in one cut). By AI agents, Wed Nov 11 2026. No macro, syntax, notation, axiom, sorry.
-/
import Derived.Test.YtkmkedmefhmnaaaChecked
import GoSem.Claim
import GoSem.ClaimJoined
import GoSem.ClaimMapViews
import Derived.JoinedTies
import Derived.KernelRfl
namespace Go.Proofs.Ytkmkedmefhmnaaa
/- THE CELL 'sum', in the pinned program and in every row, IS THE sha256 OF THE DUMP (.gsa) THAT YtkmkedmefhmnaaaProg.lean LOADS. Nothing in Lean hashes anything: it is a label: what it is worth is what the hold of that sum in a sandbox is worth. -/
noncomputable def Try.pinned : Pinned := { name := "ytkmkedmefhmnaaa", sum := "136a40903a859637e41be69b281d5c3fb77ef1807a45bd1c3b6a155c87d00953", checked := Try.checked }
namespace Rows
def none {H : Type} : Left H := { results := [], args := [] }

/-- 'cardcaselaw26.LedgerNets': WHATEVER THE INPUT: true; the input reads as it did. -/
def ledgerNetsSpec : ChangeSpec := { name := "ledgerNets", fn := fun _ => fun
  | [d1, d2] => { results := [.lit (.bool true)], args := [d1, d2] }
  | _ => none }
def ledgerNetsRow : OpenClaim := { program := "ytkmkedmefhmnaaa", sum := "136a40903a859637e41be69b281d5c3fb77ef1807a45bd1c3b6a155c87d00953", func := "cardcase/cardcaselaw26.LedgerNets", spec := "ledgerNets", apart := false }
def LedgerNetsSaid : Prop := ledgerNetsRow.holds Try.pinned (OpenSpec.ofChange ledgerNetsSpec)

/-- ITS FALSE NEIGHBOUR: 'it returns false'. Refute it at one input. -/
def ledgerNetsWrong : ChangeSpec := { name := "ledgerNets", fn := fun _ => fun
  | [d1, d2] => { results := [.lit (.bool false)], args := [d1, d2] }
  | _ => none }
def LedgerNetsWrongFalsely : Prop := ledgerNetsRow.holds Try.pinned (OpenSpec.ofChange ledgerNetsWrong)

/-- 'cardcaselaw26.LedgerTells': WHATEVER THE INPUT: true; the input reads as it did. -/
def ledgerTellsSpec : ChangeSpec := { name := "ledgerTells", fn := fun _ => fun
  | [d1, d2] => { results := [.lit (.bool true)], args := [d1, d2] }
  | _ => none }
def ledgerTellsRow : OpenClaim := { program := "ytkmkedmefhmnaaa", sum := "136a40903a859637e41be69b281d5c3fb77ef1807a45bd1c3b6a155c87d00953", func := "cardcase/cardcaselaw26.LedgerTells", spec := "ledgerTells", unfollowed := true, recurses := true, apart := false }
def LedgerTellsSaid : Prop := ledgerTellsRow.holds Try.pinned (OpenSpec.ofChange ledgerTellsSpec)

/-- ITS FALSE NEIGHBOUR: 'it returns false'. Refute it at one input. -/
def ledgerTellsWrong : ChangeSpec := { name := "ledgerTells", fn := fun _ => fun
  | [d1, d2] => { results := [.lit (.bool false)], args := [d1, d2] }
  | _ => none }
def LedgerTellsWrongFalsely : Prop := ledgerTellsRow.holds Try.pinned (OpenSpec.ofChange ledgerTellsWrong)

/-- 'cardcaselaw26.LedgerApplies': WHATEVER THE INPUT: true; the input reads as it did. -/
def ledgerAppliesSpec : ChangeSpec := { name := "ledgerApplies", fn := fun _ => fun
  | [d1, d2] => { results := [.lit (.bool true)], args := [d1, d2] }
  | _ => none }
def ledgerAppliesRow : OpenClaim := { program := "ytkmkedmefhmnaaa", sum := "136a40903a859637e41be69b281d5c3fb77ef1807a45bd1c3b6a155c87d00953", func := "cardcase/cardcaselaw26.LedgerApplies", spec := "ledgerApplies", unfollowed := true, recurses := true, apart := false }
def LedgerAppliesSaid : Prop := ledgerAppliesRow.holds Try.pinned (OpenSpec.ofChange ledgerAppliesSpec)

/-- ITS FALSE NEIGHBOUR: 'it returns false'. Refute it at one input. -/
def ledgerAppliesWrong : ChangeSpec := { name := "ledgerApplies", fn := fun _ => fun
  | [d1, d2] => { results := [.lit (.bool false)], args := [d1, d2] }
  | _ => none }
def LedgerAppliesWrongFalsely : Prop := ledgerAppliesRow.holds Try.pinned (OpenSpec.ofChange ledgerAppliesWrong)

/-- 'cardcaselaw26.LedgerNet': WHATEVER THE INPUT: true; the input reads as it did. -/
def ledgerNetSpec : ChangeSpec := { name := "ledgerNet", fn := fun _ => fun
  | [d1, d2, d3] => { results := [.lit (.bool true)], args := [d1, d2, d3] }
  | _ => none }
def ledgerNetRow : OpenClaim := { program := "ytkmkedmefhmnaaa", sum := "136a40903a859637e41be69b281d5c3fb77ef1807a45bd1c3b6a155c87d00953", func := "cardcase/cardcaselaw26.LedgerNet", spec := "ledgerNet", unfollowed := true, recurses := true, apart := false }
def LedgerNetSaid : Prop := ledgerNetRow.holds Try.pinned (OpenSpec.ofChange ledgerNetSpec)

/-- ITS FALSE NEIGHBOUR: 'it returns false'. Refute it at one input. -/
def ledgerNetWrong : ChangeSpec := { name := "ledgerNet", fn := fun _ => fun
  | [d1, d2, d3] => { results := [.lit (.bool false)], args := [d1, d2, d3] }
  | _ => none }
def LedgerNetWrongFalsely : Prop := ledgerNetRow.holds Try.pinned (OpenSpec.ofChange ledgerNetWrong)

/-- 'cardcaselaw26.LedgerTrims': WHATEVER THE INPUT: true; the input reads as it did. -/
def ledgerTrimsSpec : ChangeSpec := { name := "ledgerTrims", fn := fun _ => fun
  | [d1, d2] => { results := [.lit (.bool true)], args := [d1, d2] }
  | _ => none }
def ledgerTrimsRow : OpenClaim := { program := "ytkmkedmefhmnaaa", sum := "136a40903a859637e41be69b281d5c3fb77ef1807a45bd1c3b6a155c87d00953", func := "cardcase/cardcaselaw26.LedgerTrims", spec := "ledgerTrims", unfollowed := true, recurses := true, apart := false }
def LedgerTrimsSaid : Prop := ledgerTrimsRow.holds Try.pinned (OpenSpec.ofChange ledgerTrimsSpec)

/-- ITS FALSE NEIGHBOUR: 'it returns false'. Refute it at one input. -/
def ledgerTrimsWrong : ChangeSpec := { name := "ledgerTrims", fn := fun _ => fun
  | [d1, d2] => { results := [.lit (.bool false)], args := [d1, d2] }
  | _ => none }
def LedgerTrimsWrongFalsely : Prop := ledgerTrimsRow.holds Try.pinned (OpenSpec.ofChange ledgerTrimsWrong)

/- THE SECOND FORM. 'bulk': how many values and letters a reading holds, each counted each time it is reached (what is shared counts as often as it is met; a slice's spare places count too). A statement '..UptoSaid' is the law's where the arguments, and the package variables that the reading takes, are together of bulk at most 1048576: NARROWER than '..Said'. Prove '..Said' where nothing that the law and all that it calls make is longer than what came in: it says more and counts as full. Else prove '..UptoSaid'. A law counts once. -/
mutual
def uptoBulk {H : Type} : DataW H → Nat
  | .lit (.string bytes) => bytes.length + 1
  | .lit _ => 1
  | .nil => 1
  | .ptr d => uptoBulk d + 1
  | .slice elems spare => uptoBulkAll elems + uptoBulkAll spare + 1
  | .agg parts => uptoBulkAll parts + 1
  | .iface _ d => uptoBulk d + 1
  | .map entries => uptoBulkEntries entries + 1
  | .held _ => 1
def uptoBulkAll {H : Type} : List (DataW H) → Nat
  | [] => 0
  | d :: r => uptoBulk d + uptoBulkAll r
def uptoBulkEntries {H : Type} : List (Lit × DataW H) → Nat
  | [] => 0
  | x :: r => uptoBulkEntry x + uptoBulkEntries r
def uptoBulkEntry {H : Type} : Lit × DataW H → Nat
  | (.string bytes, d) => bytes.length + uptoBulk d + 1
  | (_, d) => uptoBulk d + 1
 end
def uptoSmall : (H : Type) → List (DataW H) → Bool := fun _ ds => decide (uptoBulkAll ds ≤ 1048576)
def OpenSpec.upto (s : _root_.Go.ChangeSpec) : _root_.Go.OpenSpec := { _root_.Go.OpenSpec.ofChange s with cond := some uptoSmall }

/-- 'cardcaselaw26.LedgerNets', WHERE WHAT IT READS IS OF BULK AT MOST 1048576: true; the input reads as it did. -/
def ledgerNetsUptoRow : OpenClaim := { program := "ytkmkedmefhmnaaa", sum := "136a40903a859637e41be69b281d5c3fb77ef1807a45bd1c3b6a155c87d00953", func := "cardcase/cardcaselaw26.LedgerNets", spec := "ledgerNets", apart := false, narrowed := true }
def LedgerNetsUptoSaid : Prop := ledgerNetsUptoRow.holds Try.pinned (OpenSpec.upto ledgerNetsSpec)

/-- 'cardcaselaw26.LedgerTells', WHERE WHAT IT READS IS OF BULK AT MOST 1048576: true; the input reads as it did. -/
def ledgerTellsUptoRow : OpenClaim := { program := "ytkmkedmefhmnaaa", sum := "136a40903a859637e41be69b281d5c3fb77ef1807a45bd1c3b6a155c87d00953", func := "cardcase/cardcaselaw26.LedgerTells", spec := "ledgerTells", unfollowed := true, recurses := true, apart := false, narrowed := true }
def LedgerTellsUptoSaid : Prop := ledgerTellsUptoRow.holds Try.pinned (OpenSpec.upto ledgerTellsSpec)

/-- 'cardcaselaw26.LedgerApplies', WHERE WHAT IT READS IS OF BULK AT MOST 1048576: true; the input reads as it did. -/
def ledgerAppliesUptoRow : OpenClaim := { program := "ytkmkedmefhmnaaa", sum := "136a40903a859637e41be69b281d5c3fb77ef1807a45bd1c3b6a155c87d00953", func := "cardcase/cardcaselaw26.LedgerApplies", spec := "ledgerApplies", unfollowed := true, recurses := true, apart := false, narrowed := true }
def LedgerAppliesUptoSaid : Prop := ledgerAppliesUptoRow.holds Try.pinned (OpenSpec.upto ledgerAppliesSpec)

/-- 'cardcaselaw26.LedgerNet', WHERE WHAT IT READS IS OF BULK AT MOST 1048576: true; the input reads as it did. -/
def ledgerNetUptoRow : OpenClaim := { program := "ytkmkedmefhmnaaa", sum := "136a40903a859637e41be69b281d5c3fb77ef1807a45bd1c3b6a155c87d00953", func := "cardcase/cardcaselaw26.LedgerNet", spec := "ledgerNet", unfollowed := true, recurses := true, apart := false, narrowed := true }
def LedgerNetUptoSaid : Prop := ledgerNetUptoRow.holds Try.pinned (OpenSpec.upto ledgerNetSpec)

/-- 'cardcaselaw26.LedgerTrims', WHERE WHAT IT READS IS OF BULK AT MOST 1048576: true; the input reads as it did. -/
def ledgerTrimsUptoRow : OpenClaim := { program := "ytkmkedmefhmnaaa", sum := "136a40903a859637e41be69b281d5c3fb77ef1807a45bd1c3b6a155c87d00953", func := "cardcase/cardcaselaw26.LedgerTrims", spec := "ledgerTrims", unfollowed := true, recurses := true, apart := false, narrowed := true }
def LedgerTrimsUptoSaid : Prop := ledgerTrimsUptoRow.holds Try.pinned (OpenSpec.upto ledgerTrimsSpec)

end Rows
end Go.Proofs.Ytkmkedmefhmnaaa
