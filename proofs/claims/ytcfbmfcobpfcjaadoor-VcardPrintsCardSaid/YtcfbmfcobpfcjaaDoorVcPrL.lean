/- VcardPrints holds: any card's text, and what is wrong with it, and how deep it is, are as the chapter says. The row lists Go's own tables of UTF-8, tied to the program's text by the card. -/
import Derived.Test.YtcfbmfcobpfcjaaDoorCard
import Derived.Test.YtcfbmfcobpfcjaaDoorVcPrint
import Derived.PinnedBridge
import Derived.SevenTiedAt
namespace Go.Proofs.YtcfbmfcobpfcjaaDoor
open Go.ChangeShapes Go.WideShapes Go.ChangeAt Go.RowKit Lift
open Go.ChangeMaps (open_string shut_string)
set_option linter.unusedSimpArgs false
set_option linter.unusedVariables false

theorem at_24 : rCard.at Tryd.prog 24 := rCard_at
set_option maxHeartbeats 8000000 in
set_option maxRecDepth 100000 in
theorem law_prints (cs : Array Value) (c : Crd) (w : World) (hT : Lib.Utf8Tabs 0 1 w) (h : rCard.rel (· < w.heap.size) w cs.toList c) :
    Calls Tryd.prog 3 #[.agg cs] w (TruePost w) := by
  obtain ⟨d, hh⟩ := h
  have hh2 := hh
  obtain ⟨d', ao, cap, rfl, h1, h2, h3, h4, h5⟩ := card_inv hh2
  obtain rfl : cs = #[.slice ao c.props.length cap] := Array.toList_inj.1 (by rw [h1])
  clear hh2 h1 h2 h3 h4 h5
  obtain ⟨D, hD⟩ : ∃ D, d' + 1 = D := ⟨_, rfl⟩
  rw [hD] at hh
  obtain ⟨W1, hW1⟩ : ∃ x, w.alloc (.cells #[.slice ao c.props.length cap] 24) = x := ⟨_, rfl⟩
  have hb0 : Below w.heap.size w W1 := by rw [← hW1]; exact (Below.refl _ w).alloc (Nat.le_refl _) _
  have hz1 : w.heap.size < W1.heap.size := by rw [← hW1]; simp
  have c0 : W1.cell? ⟨w.heap.size, 0, none⟩ = some (.slice ao c.props.length cap) := by rw [← hW1]; simp [go_sem]
  have HRel := Lib.hid (fun (W : World) (hb : Below w.heap.size w W) => (rCrd D).mono _ _ _ _ _ (rel_old hh hb) (fun b hb h2 => h2))
  have HG := Lib.hid (great_card D c #[.slice ao c.props.length cap] W1 (HRel.out W1 hb0))
  have HW1 := Lib.hid hW1
  have HB0 := Lib.hid hb0
  have HC0 := Lib.hid c0
  have HT := Lib.hid hT
  clear hW1 hb0 c0 hh hD hT
  go_enter Tryd.func3, Tryd.ntmps3
  go_wp2_with fail
  rw [HW1.out]
  clear HW1
  refine HG.out.mono ?_
  rintro e w2 ⟨b, rfl, hf, hb2⟩
  have HB2 := Lib.hid (HB0.out.trans (hb2.mono (by omega)))
  have c2 := (hb2.cell (p := ⟨w.heap.size, 0, none⟩) hz1).trans HC0.out
  have hz2 := hb2.size
  clear hb2 HG
  cases b with
  | true =>
    go_wp2_with fail
    go_ret
    exact ⟨rfl, HB2.out⟩
  | false =>
  have HF := Lib.hid (hf rfl)
  clear hf
  obtain ⟨X, hX⟩ : ∃ x, printC D c = x := ⟨_, rfl⟩
  obtain ⟨N, hN⟩ : ∃ x, deepN 8 c = x := ⟨_, rfl⟩
  have HP := Lib.hid (fun (W : World) (hb : Below w.heap.size w W) => cprint_any D 12 c #[.slice ao c.props.length cap] W HF.out (tabs_below HT.out hb) (HRel.out W hb))
  have HD := Lib.hid (fun (W : World) (hb : Below w.heap.size w W) => dprint_any D 12 c #[.slice ao c.props.length cap] W HF.out (HRel.out W hb))
  have HC := Lib.hid (fun (W : World) (hb : Below w.heap.size w W) => ccheck_any D 12 c #[.slice ao c.props.length cap] W HF.out (tabs_below HT.out hb) (HRel.out W hb))
  have HE := Lib.hid (fun (W : World) (hb : Below w.heap.size w W) => Deep_any D c #[.slice ao c.props.length cap] W (HRel.out W hb))
  have HE2 := Lib.hid (fun (W : World) (hb : Below w.heap.size w W) => Deep_ref D c #[.slice ao c.props.length cap] W (HRel.out W hb))
  rw [hX] at HP HD HC
  rw [hN] at HE HE2
  have HP2 := Lib.hid (HP.out w2 HB2.out)
  clear hX hN HP
  go_wp2_with fail
  refine HP2.out.mono ?_
  rintro e w3 ⟨rfl, hb3⟩
  have HB3 := Lib.hid (HB2.out.trans (hb3.mono (by omega)))
  have c3 := (hb3.cell (p := ⟨w.heap.size, 0, none⟩) (by show w.heap.size < w2.heap.size; omega)).trans c2
  have hz3 := hb3.size
  have HD3 := Lib.hid (HD.out w3 HB3.out)
  clear hb3 c2 HP2 HD
  go_wp2_with fail
  refine HD3.out.mono ?_
  rintro e w4 ⟨rfl, hb4⟩
  have HB4 := Lib.hid (HB3.out.trans (hb4.mono (by omega)))
  have c4 := (hb4.cell (p := ⟨w.heap.size, 0, none⟩) (by show w.heap.size < w3.heap.size; omega)).trans c3
  have hz4 := hb4.size
  have hw4 : w.heap.size < w4.heap.size := by omega
  have HX1 := Lib.hid (fun x : Bel w4 => HC.out x.w' (HB4.out.trans (x.below.mono (by omega))))
  have HX2 := Lib.hid (fun x : Bel w4 => HE.out x.w' (HB4.out.trans (x.below.mono (by omega))))
  have HX3 := Lib.hid (fun x : Bel w4 => HE2.out x.w' (HB4.out.trans (x.below.mono (by omega))))
  have q0 : ∀ x : Bel w4, _ := fun x => x.cell c4 hw4
  obtain ⟨s, f⟩ := X
  have hs := str_eq s s
  rw [decide_eq_true rfl] at hs
  clear hb4 c3 c4 HD3 HC HE HE2
  go_upto_region 5 with fail
  (refine wp_region_bel (by kernel_rfl) (by kernel_rfl) ?_; (repeat (any_goals (go_big_quiet_step (((first | (go_at_call 7; exact Bel.call (HX1.out _)) | (go_at_call 8; exact Bel.call (HX2.out _)) | (go_at_call 9; exact Bel.call (HX3.out _)))))))); all_goals (refine wpQuiet_nil ?_; intro wq hw'; obtain ⟨⟨wq2, hwq⟩, hw''⟩ := hw'; have hw3 : wq = wq2 := hw''; clear hw''; subst hw3))
  all_goals
    go_wp2_with fail
    go_ret
    exact ⟨by rfl, HB4.out.trans (hwq.mono (by omega))⟩
theorem prints_own : ownKnob Tryd.prog.godebug = none := by kernel_rfl
theorem prints_laid : laidOutB Tryd.prog = true := by kernel_rfl
/-- A world in which the tables lie as the program's text lays them. -/
def prints_first : Obj → Obj
  | .cells _ t frozen => .cells (Lib.firstTab.map (Value.int .u8)).toArray t frozen
  | o => o
def prints_acc : Obj → Obj
  | .cells _ t frozen => .cells ((List.range 16).flatMap (fun i => [Value.int .u8 (Lib.accLo i : Int), Value.int .u8 (Lib.accHi i : Int)])).toArray t frozen
  | o => o
noncomputable def prints_world (os : Os) : World :=
  { World.holding Tryd.prog os ⟨#[], #[], []⟩ with heap := ((World.holding Tryd.prog os ⟨#[], #[], []⟩).heap.modify 0 prints_first).modify 1 prints_acc }
theorem prints_met (os : Os) : laidMet Tryd.prog Rows.vcardPrintsRow.laid ((prints_world os).forCall (fun _ _ => 0) ⟨#[], #[.agg #[.slice none 0 0]], []⟩).memory :=
  laidMet_of_run' 8 (by kernel_rfl) (by kernel_rfl)
theorem prints_reads (os : Os) {H : Type} (enc : TypeId × Value → H) : ∃ places, DataW.whole enc Tryd.prog ((prints_world os).forCall (fun _ _ => 0) ⟨#[], #[.agg #[.slice none 0 0]], []⟩).memory Tryd.f3.params.toList Rows.vcardPrintsSpec.vars false (#[.agg #[.slice none 0 0]] : Array Value).toList 8 = some ([.agg [.nil]], [], places) :=
  ⟨[], by kernel_rfl⟩

theorem prints_tabs {W : World} (h : laidMetH Tryd.prog Rows.vcardPrintsRow.laid W) : Lib.Utf8Tabs 0 1 W := by
  have h' : laidMet Tryd.prog Rows.vcardPrintsRow.laid W := h
  have e1 : (Rows.laid_unicode_utf8_first : DataW Unit) = Lib.firstData := Pinned.utf8First_eq
  have e2 : (Rows.laid_unicode_utf8_acceptRanges (H := Unit)) = Lib.acceptData := by kernel_rfl
  have X : U8Extra Tryd.prog Tryd.lays260_ren := by constructor <;> kernel_rfl
  exact utf8Tabs_of_reads Tryd.lays260 X (Lib.laidMet.reads h' (by rw [← e1]; exact List.mem_cons_of_mem _ (List.mem_cons_self ..))) (Lib.laidMet.reads h' (by rw [← e2]; exact List.mem_cons_self ..))

set_option maxRecDepth 100000 in
theorem prints_lifted (os : Os) (started : os.Started) (H : Type) (enc : TypeId × Value → H) (F : Stop.Interp) :
    ReturnsInHanded {} Tryd.checked os 3 .any ((OpenSpec.ofChange Rows.vcardPrintsSpec).preRow enc Tryd.prog Tryd.f3 Rows.vcardPrintsRow.domain false Rows.vcardPrintsRow.laid) (((OpenSpec.ofChange Rows.vcardPrintsSpec).at F).post enc Tryd.prog Tryd.f3 false true false false) := by
  obtain ⟨places, hx⟩ := prints_reads os enc
  refine law_carded (C := Tryd.checked) 4 prints_own started (by kernel_rfl) Tryd.func3 prints_laid rfl (by kernel_rfl) Tryd.underlying4 (by kernel_rfl)
    (fun ds h => by match ds, h with | [_], _ => rfl)
    (witness_row_at (enc := enc) (C := Tryd.checked) false (prints_world os) #[.agg #[.slice none 0 0]] rfl (by kernel_rfl) (by kernel_rfl) (by kernel_rfl)
      (OpenSpec.preRow_of_cond 8 hx (by kernel_rfl) (fun k hk => by cases hk) (by kernel_rfl) (prints_met os))) ?_
  intro W base args ds p hval0 hA0 hfz hz0 hL hsh
  have hz : ∀ (j : Nat) t d, Tryd.f3.params.toList[j]? = some t → ds[j]? = some d → ∀ n ∈ d.weights Tryd.prog t, n ≤ reachBytes := hz0
  have hval : ∀ (j : Nat) t v, Tryd.f3.params[j]? = some t → args[j]? = some v → Value.okWide Tryd.prog W .any base t v := hval0
  have hA : DataW.TrodAll enc Tryd.prog W 0 (fun _ => true) true Tryd.f3.params.toList args.toList ds p := hA0
  rw [Tryd.params3] at hA hval
  obtain ⟨v0, vs0, d0, ds0, p0, q0, hargs, rfl, rfl, h0, r0⟩ := trodAll_cons hA
  obtain ⟨rfl, rfl, rfl⟩ := trodAll_nil r0
  obtain rfl : args = #[v0] := by cases args; simp_all
  obtain ⟨l0, cs0, rfl, c0⟩ := Rd.arg_struct at_24 Tryd.underlying24 (hval 0 24 v0 rfl rfl) h0 (hz 0 24 d0 rfl rfl)
  exact law_prints cs0 l0 W (prints_tabs hL) c0


theorem prints_said : Rows.VcardPrintsSaid :=
  OpenClaim.holds_of_cond 3 Tryd.f3 rfl rfl rfl rfl rfl rfl rfl ⟨rfl, rfl, rfl, rfl, rfl⟩ rfl rfl rfl rfl rfl (by kernel_rfl) Tryd.func3 (by kernel_rfl)
    (of_decide_eq_true (by kernel_rfl)) (by unfold Func.isWrapper; rw [if_neg (of_decide_eq_false (by kernel_rfl))]; exact ⟨rfl, rfl⟩)
    (fun os started H enc _ F => by rw [OpenClaim.pre_eq_preRow]; exact prints_lifted os started H enc F)
theorem prints_plain (f : FuncId) (fn : Func) (hf : Tryd.pinned.checked.prog.funcNamed "cardcase/cardcaselaw10.VcardPrints" = some f) (hfn : Tryd.pinned.checked.prog.funcs[f]? = some fn) :
    false = Tryd.pinned.checked.prog.looks [] ∧ ∀ (j : Nat) t, fn.params[j]? = some t → Tryd.pinned.checked.prog.wantsStandIn t = false := by
  obtain rfl : f = 3 := Option.some.inj ((show Tryd.prog.funcNamed "cardcase/cardcaselaw10.VcardPrints" = some 3 by kernel_rfl).symm.trans hf) |>.symm
  obtain rfl : fn = Tryd.f3 := (Option.some.inj (Tryd.func3.symm.trans hfn)).symm
  refine ⟨by kernel_rfl, fun j t ht => ?_⟩
  have hall : (Tryd.f3.params.toList.all fun t => !Tryd.prog.wantsStandIn t) = true := by kernel_rfl
  have hm := List.all_eq_true.1 hall t (by simpa using Array.mem_of_getElem? ht)
  exact Bool.not_eq_true' _ ▸ hm
/-- THE CARD. -/
theorem prints_card : Rows.VcardPrintsCardSaid :=
  Claim7.holds_tied_plain_at .later [] _ _ _ _ prints_said (fun _ h => by cases h) (by kernel_rfl) (fun _ h => by cases h) vcardPrints_row_tie rfl ⟨rfl, rfl⟩ (by kernel_rfl) rfl prints_plain (by kernel_rfl)

end Go.Proofs.YtcfbmfcobpfcjaaDoor
