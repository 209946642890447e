/- JournalDoes holds: whatever is laid, wherever the power goes, and whatever is written beside it, a journal does, and leaves on the plate, what the chapter says. The row lists Go's own tables of UTF-8, tied to the program's text by the card. -/
import Derived.Test.YtaljgcdjkmpljaaDoorCard
import Derived.Test.YtaljgcdjkmpljaaDoorRjLaw
import Derived.PinnedBridge
import Derived.SevenTiedAt
namespace Go.Proofs.YtaljgcdjkmpljaaDoor
open Go.ChangeShapes Go.WideShapes Go.ChangeAt Go.RowKit Lift
open Go.ChangeMaps (open_string shut_string)
set_option linter.unusedSimpArgs false
set_option linter.unusedVariables false

theorem at_43 : (Rd.int .i64).slice.at Tryd.prog 43 := Rd.at_slice Tryd.underlying43 (by kernel_rfl) (Rd.at_int Tryd.underlying3 (by kernel_rfl)) (by decide)
theorem rOp_at : rOp.at Tryd.prog 61 :=
  Rd.at_struct Tryd.underlying61 (by kernel_rfl) (Rd.atF_cons (Rd.at_int Tryd.underlying3 (by kernel_rfl)) rfl (Rd.atF_cons (Rd.at_int Tryd.underlying3 (by kernel_rfl)) rfl (Rd.atF_cons (Rd.at_str Tryd.underlying9 (by kernel_rfl)) rfl (Rd.atF_one at_43 rfl))))
theorem at_50 : rOp.slice.at Tryd.prog 50 := Rd.at_slice Tryd.underlying50 (by kernel_rfl) rOp_at (by decide)
theorem at_49 : rWhere.at Tryd.prog 49 :=
  Rd.at_struct Tryd.underlying49 (by kernel_rfl) (Rd.atF_cons (Rd.at_int Tryd.underlying3 (by kernel_rfl)) rfl (Rd.atF_cons (Rd.at_int Tryd.underlying3 (by kernel_rfl)) rfl (Rd.atF_cons (Rd.at_int Tryd.underlying3 (by kernel_rfl)) rfl (Rd.atF_one (Rd.at_int Tryd.underlying35 (by kernel_rfl)) rfl))))
theorem does_own : ownKnob Tryd.prog.godebug = none := by kernel_rfl
theorem does_laid : laidOutB Tryd.prog = true := by kernel_rfl
/-- A world in which the tables lie as the program's text lays them. -/
def does_first : Obj → Obj
  | .cells _ t frozen => .cells (Lib.firstTab.map (Value.int .u8)).toArray t frozen
  | o => o
def does_acc : Obj → Obj
  | .cells _ t frozen => .cells ((List.range 16).flatMap (fun i => [Value.int .u8 (Lib.accLo i : Int), Value.int .u8 (Lib.accHi i : Int)])).toArray t frozen
  | o => o
noncomputable def does_world (os : Os) : World :=
  { World.holding Tryd.prog os ⟨#[], #[], []⟩ with heap := ((World.holding Tryd.prog os ⟨#[], #[], []⟩).heap.modify 0 does_first).modify 1 does_acc }
theorem does_met (os : Os) : laidMet Tryd.prog Rows.journalDoesRow.laid ((does_world os).forCall (fun _ _ => 0) ⟨#[], #[.agg #[.int .i64 0, .int .i64 0, .int .i64 0, .int .u32 0], .slice none 0 0], []⟩).memory :=
  laidMet_of_run' 8 (by kernel_rfl) (by kernel_rfl)
theorem does_reads (os : Os) {H : Type} (enc : TypeId × Value → H) : ∃ places, DataW.whole enc Tryd.prog ((does_world os).forCall (fun _ _ => 0) ⟨#[], #[.agg #[.int .i64 0, .int .i64 0, .int .i64 0, .int .u32 0], .slice none 0 0], []⟩).memory Tryd.f6.params.toList Rows.journalDoesSpec.vars false (#[.agg #[.int .i64 0, .int .i64 0, .int .i64 0, .int .u32 0], .slice none 0 0] : Array Value).toList 8 = some ([.agg [.lit (.int .i64 0), .lit (.int .i64 0), .lit (.int .i64 0), .lit (.int .u32 0)], .nil], [], places) :=
  ⟨[], by kernel_rfl⟩

set_option maxRecDepth 100000 in
theorem does_lifted (os : Os) (started : os.Started) (H : Type) (enc : TypeId × Value → H) (F : Stop.Interp) :
    ReturnsInHanded {} Tryd.checked os 6 .any ((OpenSpec.ofChange Rows.journalDoesSpec).preRow enc Tryd.prog Tryd.f6 Rows.journalDoesRow.domain false Rows.journalDoesRow.laid) (((OpenSpec.ofChange Rows.journalDoesSpec).at F).post enc Tryd.prog Tryd.f6 false true false false) := by
  obtain ⟨places, hx⟩ := does_reads os enc
  refine law_carded (C := Tryd.checked) 4 does_own started (by kernel_rfl) Tryd.func6 does_laid rfl (by kernel_rfl) Tryd.underlying4 (by kernel_rfl)
    (fun ds h => by match ds, h with | [_, _], _ => rfl)
    (witness_row_at (enc := enc) (C := Tryd.checked) false (does_world os) #[.agg #[.int .i64 0, .int .i64 0, .int .i64 0, .int .u32 0], .slice none 0 0] rfl (by kernel_rfl) (by kernel_rfl) (by kernel_rfl)
      (OpenSpec.preRow_of_cond 8 hx (by kernel_rfl) (fun k hk => by cases hk) (by kernel_rfl) (does_met os))) ?_
  intro W base args ds p hval0 hA0 hfz hz0 hL hsh
  have hz : ∀ (j : Nat) t d, Tryd.f6.params.toList[j]? = some t → ds[j]? = some d → ∀ n ∈ d.weights Tryd.prog t, n ≤ reachBytes := hz0
  have hval : ∀ (j : Nat) t v, Tryd.f6.params[j]? = some t → args[j]? = some v → Value.okWide Tryd.prog W .any base t v := hval0
  have hA : DataW.TrodAll enc Tryd.prog W 0 (fun _ => true) true Tryd.f6.params.toList args.toList ds p := hA0
  rw [Tryd.params6] at hA hval
  obtain ⟨v0, vs0, d0, ds0, p0, q0, hargs, rfl, rfl, h0, r0⟩ := trodAll_cons hA
  obtain ⟨v1, vs1, d1, ds1, p1, q1, rfl, rfl, rfl, h1, r1⟩ := trodAll_cons r0
  obtain ⟨rfl, rfl, rfl⟩ := trodAll_nil r1
  obtain rfl : args = #[v0, v1] := by cases args; simp_all
  obtain ⟨l0, cs0, rfl, c0⟩ := Rd.arg_struct at_49 Tryd.underlying49 (hval 0 49 v0 rfl rfl) h0 (hz 0 49 d0 rfl rfl)
  obtain ⟨l1, ao1, cap1, rfl, c1⟩ := Rd.arg_slice at_50 Tryd.underlying50 (hval 1 50 v1 rfl rfl) h1 (hz 1 50 d1 rfl rfl)
  exact law_does cs0 l0 ao1 cap1 l1 W c0 c1


theorem does_said : Rows.JournalDoesSaid :=
  OpenClaim.holds_of_cond 6 Tryd.f6 rfl rfl rfl rfl rfl rfl rfl ⟨rfl, rfl, rfl, rfl, rfl⟩ rfl rfl rfl rfl rfl (by kernel_rfl) Tryd.func6 (by kernel_rfl)
    (of_decide_eq_true (by kernel_rfl)) (by unfold Func.isWrapper; rw [if_neg (of_decide_eq_false (by kernel_rfl))]; exact ⟨rfl, rfl⟩)
    (fun os started H enc _ F => by rw [OpenClaim.pre_eq_preRow]; exact does_lifted os started H enc F)
theorem does_plain (f : FuncId) (fn : Func) (hf : Tryd.pinned.checked.prog.funcNamed "cardcase/cardcaselaw24.JournalDoes" = some f) (hfn : Tryd.pinned.checked.prog.funcs[f]? = some fn) :
    false = Tryd.pinned.checked.prog.looks [] ∧ ∀ (j : Nat) t, fn.params[j]? = some t → Tryd.pinned.checked.prog.wantsStandIn t = false := by
  obtain rfl : f = 6 := Option.some.inj ((show Tryd.prog.funcNamed "cardcase/cardcaselaw24.JournalDoes" = some 6 by kernel_rfl).symm.trans hf) |>.symm
  obtain rfl : fn = Tryd.f6 := (Option.some.inj (Tryd.func6.symm.trans hfn)).symm
  refine ⟨by kernel_rfl, fun j t ht => ?_⟩
  have hall : (Tryd.f6.params.toList.all fun t => !Tryd.prog.wantsStandIn t) = true := by kernel_rfl
  have hm := List.all_eq_true.1 hall t (by simpa using Array.mem_of_getElem? ht)
  exact Bool.not_eq_true' _ ▸ hm
/-- THE CARD. -/
theorem does_card : Rows.JournalDoesCardSaid :=
  Claim7.holds_tied_plain_at .later [] _ _ _ _ does_said (fun _ h => by cases h) (by kernel_rfl) (fun _ h => by cases h) journalDoes_row_tie rfl ⟨rfl, rfl⟩ (by kernel_rfl) rfl does_plain (by kernel_rfl)

end Go.Proofs.YtaljgcdjkmpljaaDoor
