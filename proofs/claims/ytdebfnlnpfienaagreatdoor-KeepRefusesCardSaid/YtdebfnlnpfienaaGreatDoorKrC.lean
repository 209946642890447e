/- KeepRefuses holds: a commit that is refused changes nothing, one that is not does just its writes, and laid anew all is as it was. The row lists Go's own tables of UTF-8, tied to the program's text by the card. -/
import Derived.Test.YtdebfnlnpfienaaGreatDoorCard
import Derived.Test.YtdebfnlnpfienaaGreatDoorKeH
import Derived.PinnedBridge
import Derived.SevenTiedAt
namespace Go.Proofs.YtdebfnlnpfienaaGreatDoor
open Go.ChangeShapes Go.WideShapes Go.ChangeAt Go.RowKit Lift
open Go.ChangeMaps (open_string shut_string)
set_option linter.unusedSimpArgs false
set_option linter.unusedVariables false

theorem at_22 : rKw.slice.slice.at Tryz.prog 22 := kwss_at
theorem law_refuses' (ao : Option Addr) (cap : Nat) (l : List (List KW)) (w : World) (h : SlArg rKw.slice w ao cap l) :
    Calls Tryz.prog 3 #[.slice ao l.length cap] w (TruePost w) := law_refuses works_any ao cap l w h
theorem refuses_own : ownKnob Tryz.prog.godebug = none := by kernel_rfl
theorem refuses_laid : laidOutB Tryz.prog = true := by kernel_rfl
/-- A world in which the tables lie as the program's text lays them. -/
def refuses_first : Obj → Obj
  | .cells _ t frozen => .cells (Lib.firstTab.map (Value.int .u8)).toArray t frozen
  | o => o
def refuses_acc : Obj → Obj
  | .cells _ t frozen => .cells ((List.range 16).flatMap (fun i => [Value.int .u8 (Lib.accLo i : Int), Value.int .u8 (Lib.accHi i : Int)])).toArray t frozen
  | o => o
noncomputable def refuses_world (os : Os) : World :=
  { World.holding Tryz.prog os ⟨#[], #[], []⟩ with heap := ((World.holding Tryz.prog os ⟨#[], #[], []⟩).heap.modify 0 refuses_first).modify 1 refuses_acc }
theorem refuses_met (os : Os) : laidMet Tryz.prog Rows.keepRefusesRow.laid ((refuses_world os).forCall (fun _ _ => 0) ⟨#[], #[.slice none 0 0], []⟩).memory :=
  laidMet_of_run' 8 (by kernel_rfl) (by kernel_rfl)
theorem refuses_reads (os : Os) {H : Type} (enc : TypeId × Value → H) : ∃ places, DataW.whole enc Tryz.prog ((refuses_world os).forCall (fun _ _ => 0) ⟨#[], #[.slice none 0 0], []⟩).memory Tryz.f3.params.toList Rows.keepRefusesSpec.vars false (#[.slice none 0 0] : Array Value).toList 8 = some ([.nil], [], places) :=
  ⟨[], by kernel_rfl⟩

set_option maxRecDepth 100000 in
theorem refuses_lifted (os : Os) (started : os.Started) (H : Type) (enc : TypeId × Value → H) (F : Stop.Interp) :
    ReturnsInHanded {} Tryz.checked os 3 .any ((OpenSpec.ofChange Rows.keepRefusesSpec).preRow enc Tryz.prog Tryz.f3 Rows.keepRefusesRow.domain false Rows.keepRefusesRow.laid) (((OpenSpec.ofChange Rows.keepRefusesSpec).at F).post enc Tryz.prog Tryz.f3 false true false false) := by
  obtain ⟨places, hx⟩ := refuses_reads os enc
  refine law_carded (C := Tryz.checked) 4 refuses_own started (by kernel_rfl) Tryz.func3 refuses_laid rfl (by kernel_rfl) Tryz.underlying4 (by kernel_rfl)
    (fun ds h => by match ds, h with | [_], _ => rfl)
    (witness_row_at (enc := enc) (C := Tryz.checked) false (refuses_world os) #[.slice none 0 0] rfl (by kernel_rfl) (by kernel_rfl) (by kernel_rfl)
      (OpenSpec.preRow_of_cond 8 hx (by kernel_rfl) (fun k hk => by cases hk) (by kernel_rfl) (refuses_met os))) ?_
  intro W base args ds p hval0 hA0 hfz hz0 hL hsh
  have hz : ∀ (j : Nat) t d, Tryz.f3.params.toList[j]? = some t → ds[j]? = some d → ∀ n ∈ d.weights Tryz.prog t, n ≤ reachBytes := hz0
  have hval : ∀ (j : Nat) t v, Tryz.f3.params[j]? = some t → args[j]? = some v → Value.okWide Tryz.prog W .any base t v := hval0
  have hA : DataW.TrodAll enc Tryz.prog W 0 (fun _ => true) true Tryz.f3.params.toList args.toList ds p := hA0
  rw [Tryz.params3] at hA hval
  obtain ⟨v0, vs0, d0, ds0, p0, q0, hargs, rfl, rfl, h0, r0⟩ := trodAll_cons hA
  obtain ⟨rfl, rfl, rfl⟩ := trodAll_nil r0
  obtain rfl : args = #[v0] := by cases args; simp_all
  obtain ⟨l0, ao0, cap0, rfl, c0⟩ := Rd.arg_slice at_22 Tryz.underlying22 (hval 0 22 v0 rfl rfl) h0 (hz 0 22 d0 rfl rfl)
  exact law_refuses' ao0 cap0 l0 W c0


theorem refuses_said : Rows.KeepRefusesSaid :=
  OpenClaim.holds_of_cond 3 Tryz.f3 rfl rfl rfl rfl rfl rfl rfl ⟨rfl, rfl, rfl, rfl, rfl⟩ rfl rfl rfl rfl rfl (by kernel_rfl) Tryz.func3 (by kernel_rfl)
    (of_decide_eq_true (by kernel_rfl)) (by unfold Func.isWrapper; rw [if_neg (of_decide_eq_false (by kernel_rfl))]; exact ⟨rfl, rfl⟩)
    (fun os started H enc _ F => by rw [OpenClaim.pre_eq_preRow]; exact refuses_lifted os started H enc F)
theorem refuses_plain (f : FuncId) (fn : Func) (hf : Tryz.pinned.checked.prog.funcNamed "cardcase/cardcaselaw25.KeepRefuses" = some f) (hfn : Tryz.pinned.checked.prog.funcs[f]? = some fn) :
    false = Tryz.pinned.checked.prog.looks [] ∧ ∀ (j : Nat) t, fn.params[j]? = some t → Tryz.pinned.checked.prog.wantsStandIn t = false := by
  obtain rfl : f = 3 := Option.some.inj ((show Tryz.prog.funcNamed "cardcase/cardcaselaw25.KeepRefuses" = some 3 by kernel_rfl).symm.trans hf) |>.symm
  obtain rfl : fn = Tryz.f3 := (Option.some.inj (Tryz.func3.symm.trans hfn)).symm
  refine ⟨by kernel_rfl, fun j t ht => ?_⟩
  have hall : (Tryz.f3.params.toList.all fun t => !Tryz.prog.wantsStandIn t) = true := by kernel_rfl
  have hm := List.all_eq_true.1 hall t (by simpa using Array.mem_of_getElem? ht)
  exact Bool.not_eq_true' _ ▸ hm
/-- THE CARD. -/
theorem refuses_card : Rows.KeepRefusesCardSaid :=
  Claim7.holds_tied_plain_at .later [] _ _ _ _ refuses_said (fun _ h => by cases h) (by kernel_rfl) (fun _ h => by cases h) keepRefuses_row_tie rfl ⟨rfl, rfl⟩ (by kernel_rfl) rfl refuses_plain (by kernel_rfl)

end Go.Proofs.YtdebfnlnpfienaaGreatDoor
