/- KeepWhole holds: wherever the power goes in a commit, while all is laid anew, in openings, the keep opens with all that was committed, and besides it at most the commit that was under way, wholly. The row lists Go's own tables of UTF-8, tied to the program's text by the card. -/
import Derived.Test.YtdebfnlnpfienaaGreatDoorCard
import Derived.Test.YtdebfnlnpfienaaGreatDoorKwLaw
import Derived.PinnedBridge
import Derived.SevenTiedAt
namespace Go.Proofs.YtdebfnlnpfienaaGreatDoor
open Go.ChangeShapes Go.WideShapes Go.ChangeAt Go.RowKit Lift
open Go.ChangeMaps (open_string shut_string)
set_option linter.unusedSimpArgs false
set_option linter.unusedVariables false

theorem at_22 : rKw.slice.slice.at Tryz.prog 22 := kwss_at
theorem at_32 : rKw.slice.at Tryz.prog 32 := kws_at
theorem at_45 : rCutW.at Tryz.prog 45 := rCutW_at
theorem whole_own : ownKnob Tryz.prog.godebug = none := by kernel_rfl
theorem whole_laid : laidOutB Tryz.prog = true := by kernel_rfl
/-- A world in which the tables lie as the program's text lays them. -/
def whole_first : Obj → Obj
  | .cells _ t frozen => .cells (Lib.firstTab.map (Value.int .u8)).toArray t frozen
  | o => o
def whole_acc : Obj → Obj
  | .cells _ t frozen => .cells ((List.range 16).flatMap (fun i => [Value.int .u8 (Lib.accLo i : Int), Value.int .u8 (Lib.accHi i : Int)])).toArray t frozen
  | o => o
noncomputable def whole_world (os : Os) : World :=
  { World.holding Tryz.prog os ⟨#[], #[], []⟩ with heap := ((World.holding Tryz.prog os ⟨#[], #[], []⟩).heap.modify 0 whole_first).modify 1 whole_acc }
theorem whole_met (os : Os) : laidMet Tryz.prog Rows.keepWholeRow.laid ((whole_world os).forCall (fun _ _ => 0) ⟨#[], #[.slice none 0 0, .slice none 0 0, .agg #[.slice none 0 0, .slice none 0 0]], []⟩).memory :=
  laidMet_of_run' 8 (by kernel_rfl) (by kernel_rfl)
theorem whole_reads (os : Os) {H : Type} (enc : TypeId × Value → H) : ∃ places, DataW.whole enc Tryz.prog ((whole_world os).forCall (fun _ _ => 0) ⟨#[], #[.slice none 0 0, .slice none 0 0, .agg #[.slice none 0 0, .slice none 0 0]], []⟩).memory Tryz.f4.params.toList Rows.keepWholeSpec.vars false (#[.slice none 0 0, .slice none 0 0, .agg #[.slice none 0 0, .slice none 0 0]] : Array Value).toList 8 = some ([.nil, .nil, .agg [.nil, .nil]], [], places) :=
  ⟨[], by kernel_rfl⟩

set_option maxRecDepth 100000 in
theorem whole_lifted (os : Os) (started : os.Started) (H : Type) (enc : TypeId × Value → H) (F : Stop.Interp) :
    ReturnsInHanded {} Tryz.checked os 4 .any ((OpenSpec.ofChange Rows.keepWholeSpec).preRow enc Tryz.prog Tryz.f4 Rows.keepWholeRow.domain false Rows.keepWholeRow.laid) (((OpenSpec.ofChange Rows.keepWholeSpec).at F).post enc Tryz.prog Tryz.f4 false true false false) := by
  obtain ⟨places, hx⟩ := whole_reads os enc
  refine law_carded (C := Tryz.checked) 4 whole_own started (by kernel_rfl) Tryz.func4 whole_laid rfl (by kernel_rfl) Tryz.underlying4 (by kernel_rfl)
    (fun ds h => by match ds, h with | [_, _, _], _ => rfl)
    (witness_row_at (enc := enc) (C := Tryz.checked) false (whole_world os) #[.slice none 0 0, .slice none 0 0, .agg #[.slice none 0 0, .slice none 0 0]] rfl (by kernel_rfl) (by kernel_rfl) (by kernel_rfl)
      (OpenSpec.preRow_of_cond 8 hx (by kernel_rfl) (fun k hk => by cases hk) (by kernel_rfl) (whole_met os))) ?_
  intro W base args ds p hval0 hA0 hfz hz0 hL hsh
  have hz : ∀ (j : Nat) t d, Tryz.f4.params.toList[j]? = some t → ds[j]? = some d → ∀ n ∈ d.weights Tryz.prog t, n ≤ reachBytes := hz0
  have hval : ∀ (j : Nat) t v, Tryz.f4.params[j]? = some t → args[j]? = some v → Value.okWide Tryz.prog W .any base t v := hval0
  have hA : DataW.TrodAll enc Tryz.prog W 0 (fun _ => true) true Tryz.f4.params.toList args.toList ds p := hA0
  rw [Tryz.params4] at hA hval
  obtain ⟨v0, vs0, d0, ds0, p0, q0, hargs, rfl, rfl, h0, r0⟩ := trodAll_cons hA
  obtain ⟨v1, vs1, d1, ds1, p1, q1, rfl, rfl, rfl, h1, r1⟩ := trodAll_cons r0
  obtain ⟨v2, vs2, d2, ds2, p2, q2, rfl, rfl, rfl, h2, r2⟩ := trodAll_cons r1
  obtain ⟨rfl, rfl, rfl⟩ := trodAll_nil r2
  obtain rfl : args = #[v0, v1, v2] := by cases args; simp_all
  obtain ⟨l0, ao0, cap0, rfl, c0⟩ := Rd.arg_slice at_22 Tryz.underlying22 (hval 0 22 v0 rfl rfl) h0 (hz 0 22 d0 rfl rfl)
  obtain ⟨l1, ao1, cap1, rfl, c1⟩ := Rd.arg_slice at_32 Tryz.underlying32 (hval 1 32 v1 rfl rfl) h1 (hz 1 32 d1 rfl rfl)
  obtain ⟨l2, cs2, rfl, c2⟩ := Rd.arg_struct at_45 Tryz.underlying45 (hval 2 45 v2 rfl rfl) h2 (hz 2 45 d2 rfl rfl)
  exact law_keepwhole ao0 cap0 l0 ao1 cap1 l1 cs2 l2 W c0 c1 c2


theorem whole_said : Rows.KeepWholeSaid :=
  OpenClaim.holds_of_cond 4 Tryz.f4 rfl rfl rfl rfl rfl rfl rfl ⟨rfl, rfl, rfl, rfl, rfl⟩ rfl rfl rfl rfl rfl (by kernel_rfl) Tryz.func4 (by kernel_rfl)
    (of_decide_eq_true (by kernel_rfl)) (by unfold Func.isWrapper; rw [if_neg (of_decide_eq_false (by kernel_rfl))]; exact ⟨rfl, rfl⟩)
    (fun os started H enc _ F => by rw [OpenClaim.pre_eq_preRow]; exact whole_lifted os started H enc F)
theorem whole_plain (f : FuncId) (fn : Func) (hf : Tryz.pinned.checked.prog.funcNamed "cardcase/cardcaselaw25.KeepWhole" = some f) (hfn : Tryz.pinned.checked.prog.funcs[f]? = some fn) :
    false = Tryz.pinned.checked.prog.looks [] ∧ ∀ (j : Nat) t, fn.params[j]? = some t → Tryz.pinned.checked.prog.wantsStandIn t = false := by
  obtain rfl : f = 4 := Option.some.inj ((show Tryz.prog.funcNamed "cardcase/cardcaselaw25.KeepWhole" = some 4 by kernel_rfl).symm.trans hf) |>.symm
  obtain rfl : fn = Tryz.f4 := (Option.some.inj (Tryz.func4.symm.trans hfn)).symm
  refine ⟨by kernel_rfl, fun j t ht => ?_⟩
  have hall : (Tryz.f4.params.toList.all fun t => !Tryz.prog.wantsStandIn t) = true := by kernel_rfl
  have hm := List.all_eq_true.1 hall t (by simpa using Array.mem_of_getElem? ht)
  exact Bool.not_eq_true' _ ▸ hm
/-- THE CARD. -/
theorem whole_card : Rows.KeepWholeCardSaid :=
  Claim7.holds_tied_plain_at .later [] _ _ _ _ whole_said (fun _ h => by cases h) (by kernel_rfl) (fun _ h => by cases h) keepWhole_row_tie rfl ⟨rfl, rfl⟩ (by kernel_rfl) rfl whole_plain (by kernel_rfl)

end Go.Proofs.YtdebfnlnpfienaaGreatDoor
