/- LinesFold holds: any line in lines of any width, and any lines unfolded, are as the document has them. The row lists Go's own tables of UTF-8, tied to the program's text by the card. -/
import Derived.Test.YtclcahkgeaediaaDoorCard
import Derived.Test.YtclcahkgeaediaaDoorFold2
import Derived.Test.YtclcahkgeaediaaDoorNumb
import Derived.Test.YtclcahkgeaediaaDoorLinGr
import Derived.PinnedBridge
import Derived.SevenTiedAt
namespace Go.Proofs.YtclcahkgeaediaaDoor
open Go.ChangeShapes Go.WideShapes Go.ChangeAt Go.RowKit Lift
open Go.ChangeMaps (open_string shut_string)
set_option linter.unusedSimpArgs false
set_option linter.unusedVariables false

theorem at_22 : Rd.str.slice.at Tryd.prog 22 := Rd.at_slice Tryd.underlying22 (by kernel_rfl) rStr_at (by decide)
theorem unfold_any (ao : Option Addr) (cap : Nat) (l : List ByteArray) (w : World) (hl : SlAt Rd.str (· < w.heap.size) w ao l) (hlen : l.length ≤ 100000) (hsum : sumB l ≤ 1000000) (hcap : l.length ≤ cap) (hcm : cap ≤ maxLen) :
    Calls Tryd.prog 9 #[.slice ao l.length cap] w (RowPost Rd.str 9 ((numb l l.length).map (·.2)) w) :=
  callsIn_wide.1 (unfold_in 5 (by omega) ao cap l w hl hlen hsum hcap hcm)
set_option maxHeartbeats 1000000 in
set_option maxRecDepth 100000 in
theorem unfold_ref (ao : Option Addr) (cap : Nat) (l : List ByteArray) (w : World) (hl : SlAt Rd.str (· < w.heap.size) w ao l) (hlen : l.length ≤ 100000) (hsum : sumB l ≤ 100000) :
    Calls Tryd.prog 10 #[.slice ao l.length cap] w (RowPost Rd.str 9 ((numb l l.length).map (·.2)) w) := by
  have HN := Lib.hid (numbered_ref ao cap l w hl hlen hsum)
  have HLm := Lib.hid (show ((numb l l.length).map (·.2)).length = (numb l l.length).length from List.length_map _)
  go_enter Tryd.func10, Tryd.ntmps10
  go_wp2_with fail
  refine HN.out.mono ?_
  rintro e w1 ⟨an, cn, am, cm, rfl, hN, hM, hb⟩
  go_wp2_with fail
  go_ret
  exact ⟨am, cm, by rw [HLm.out]; rfl, by rw [HLm.out]; exact hM, hb⟩
theorem foldS_len (W : Nat) : ∀ (f : Nat) (s : ByteArray), (foldS W f s).length ≤ f + 1
  | 0, s => by simp [foldS]
  | f + 1, s => by
    have ih := foldS_len W f
    unfold foldS
    split
    · rw [List.length_cons]; have := ih (s.extract ((cutAt W s).toNat + 1) s.size); omega
    · simp
theorem same_self (ao bo : Option Addr) (cap cap2 : Nat) (l : List ByteArray) (w : World) (hl : SlAt Rd.str (· < w.heap.size) w ao l) (hm : SlAt Rd.str (· < w.heap.size) w bo l) (hlen : l.length ≤ 100000) :
    Calls Tryd.prog 6 #[.slice ao l.length cap, .slice bo l.length cap2] w (BelowPost (.bool true) w) := by
  have h := same_strs ao bo cap cap2 l l w hl hm hlen
  rwa [decide_eq_true (rfl : l = l)] at h
set_option maxHeartbeats 8000000 in
set_option maxRecDepth 100000 in
theorem law_fold (s : ByteArray) (width : Int) (hwf : (Lit.int .i64 width).wf = true) (ao : Option Addr) (cap : Nat) (l : List ByteArray) (w : World) (hT : Lib.Utf8Tabs 1 2 w) (h : SlArg Rd.str w ao cap l) : Calls Tryd.prog 3 #[.string s, .int .i64 width, .slice ao l.length cap] w (TruePost w) := by
  have hll : l.length ≤ 9223372036854775807 := by have := Nat.le_trans h.le h.max; simpa [maxLen] using this
  have hl := h.at'
  by_cases hs : s.size ≤ 2000
  · have hd : decide ((2000:Int) < (s.size : Int)) = false := by simp; omega
    have HG := Lib.hid (great_strs ao cap l w hl hll)
    cases hg : greatS 0 0 l with
    | true =>
      rw [hg] at HG
      clear hg
      go_enter Tryd.func3, Tryd.ntmps3
      go_wp2_with fail
      refine HG.out.mono ?_
      rintro e w1 ⟨rfl, hb1⟩
      go_wp2_with fail
      go_ret
      exact ⟨rfl, hb1⟩
    | false =>
      rw [hg] at HG
      obtain ⟨h1, h2⟩ := greatS_len _ _ _ hg (by omega)
      have hlen : l.length ≤ 201 := by omega
      have hsum : sumB l ≤ 2000 := by have : sumB l = sumL l := rfl; omega
      obtain ⟨i0, hi, hz0, hz1, hz2⟩ := str_info0
      have HI := Lib.hid hi; have HZ0 := Lib.hid hz0; have HZ1 := Lib.hid hz1; have HZ2 := Lib.hid hz2
      clear hg h1 h2 hi hz0 hz1 hz2
      have hnil := h.nil
      have hle := h.le
      have hmx := h.max
      go_enter Tryd.func3, Tryd.ntmps3
      go_wp2_with fail
      refine HG.out.mono ?_
      rintro e w1 ⟨rfl, hb1⟩
      have hz1 := bsize hb1
      have hA2 : Below w.heap.size w (w1.alloc (.cells #[] 9)) := hb1.alloc (by omega) _
      have HMA := Lib.hid ((hl.old hA2).apart (v := .slice (some ⟨w1.heap.size, 0, none⟩) 0 0) (fun k hk => by cases hk; omega))
      clear HG
      go_wp2_with (first | (at_builtin; refine wpList_pushAll Rd.str rfl _ _ 22 rfl w1.heap.size 9 i0 _ 16 Tryd.underlying22 HI.out HZ0.out HZ1.out HZ2.out rfl (by decide) (fun _ => True) (.slice (some ⟨w1.heap.size, 0, none⟩) 0 0) [] rfl (own_made2 _ _ _ _ _ _ (Nat.le_refl _) rfl) ao cap l rfl hnil HMA.out str_one (by unfold maxLen; simp; omega) (by simp; omega) (by simp) ?_; intro v2 w2 hO2 hK2 hw2; obtain ⟨ao2, cap2, rfl⟩ := hO2.form))
      rw [List.nil_append] at hO2
      clear hw2 HMA
      have hB2 : Below w.heap.size w w2 := by
        have h1 : Below w.heap.size (w1.alloc (.cells #[] 9)) w2 := hK2.below (by simp; omega) (fun k e => by obtain rfl : k = w1.heap.size := by injection e
                                                                                                              omega)
        exact hA2.trans h1
      have hz2 := hB2.size
      have HF1 := Lib.hid (fold_any s width w2 (by omega) hwf (fun x w' _ hx hb => lastAny_any x ⟨#[32, 9]⟩ w' (by decide) (by decide) (by omega) bl_low (tabs_below (tabs_below hT hB2) hb)))
      have HF2 := Lib.hid (fun w => fold_ref s width w (by omega) hwf)
      have hfl : (foldW s width).length ≤ 3000 := by have := foldS_len (max width 2).toNat s.size s; unfold foldW; omega
      have hnl : ((numb l l.length).map (·.2)).length ≤ 3000 := by have := numb_len l l.length; rw [List.length_map]; omega
      have hcap2 := hO2.cap
      generalize foldW s width = fs at HF1 HF2 hfl
      obtain ⟨us, hus⟩ : ∃ us, (numb l l.length).map (·.2) = us := ⟨_, rfl⟩
      rw [hus] at hnl
      have HUS := Lib.hid hus
      clear hus hwf
      refine HF1.out.mono ?_
      rintro e w3 ⟨a3, c3, rfl, hO3, hb3⟩
      go_wp2_with fail
      refine (HF2.out _).mono ?_
      rintro e w4 ⟨a4, c4, rfl, hO4, hb4⟩
      have HS1 := Lib.hid (same_self a3 a4 c3 c4 fs w4 (hO3.below hb4).here hO4.here (by omega))
      have hB4 := chain hB2 (chain hb3 hb4)
      have hO24 := hO2.below (chain hb3 hb4)
      clear hO3 hO4 hb3 hb4 HF1 HF2 hO2
      go_wp2_with fail
      refine HS1.out.mono ?_
      rintro e w5 ⟨rfl, hb5⟩
      have hO25 := hO24.below hb5
      have hB5 := chain hB4 hb5
      have HU1 := Lib.hid (unfold_any ao2 cap2 l w5 hO25.here (by omega) (by omega) hcap2.1 hcap2.2.1)
      rw [HUS.out] at HU1
      clear hO24 hb5 HS1
      go_wp2_with fail
      refine HU1.out.mono ?_
      rintro e w6 ⟨a6, c6, rfl, hO6, hb6⟩
      have hB6 := chain hB5 hb6
      have HU2 := Lib.hid (unfold_ref ao cap l w6 (hl.old hB6).here (by omega) (by omega))
      rw [HUS.out] at HU2
      have hO26 := hO25.below hb6
      clear hO25 HU1 hb6
      go_wp2_with fail
      refine HU2.out.mono ?_
      rintro e w7 ⟨a7, c7, rfl, hO7, hb7⟩
      have HS2 := Lib.hid (same_self a6 a7 c6 c7 us w7 (hO6.below hb7).here hO7.here (by omega))
      have hB7 := chain hB6 hb7
      have hO27 := hO26.below hb7
      clear hO26 HU2 hb7 hO6 hO7
      go_wp2_with fail
      refine HS2.out.mono ?_
      rintro e w8 ⟨rfl, hb8⟩
      have hB8 := chain hB7 hb8
      have HS3 := Lib.hid (same_self ao2 ao cap2 cap l w8 (hO27.below hb8).here (hl.old hB8).here (by omega))
      clear HS2 hb8 hO27
      go_wp2_with fail
      refine HS3.out.mono ?_
      rintro e w9 ⟨rfl, hb9⟩
      go_wp2_with fail
      go_ret
      exact ⟨rfl, chain hB8 hb9⟩
  · have hd : decide ((2000:Int) < (s.size : Int)) = true := by simp; omega
    go_enter Tryd.func3, Tryd.ntmps3
    go_wp2_with fail
    go_ret
    exact ⟨rfl, Below.refl _ _⟩
theorem fold_own : ownKnob Tryd.prog.godebug = none := by kernel_rfl
theorem fold_laid : laidOutB Tryd.prog = true := by kernel_rfl
/-- A world in which the tables lie as the program's text lays them. -/
def fold_first : Obj → Obj
  | .cells _ t frozen => .cells (Lib.firstTab.map (Value.int .u8)).toArray t frozen
  | o => o
def fold_acc : Obj → Obj
  | .cells _ t frozen => .cells ((List.range 16).flatMap (fun i => [Value.int .u8 (Lib.accLo i : Int), Value.int .u8 (Lib.accHi i : Int)])).toArray t frozen
  | o => o
noncomputable def fold_world (os : Os) : World :=
  { World.holding Tryd.prog os ⟨#[], #[], []⟩ with heap := ((World.holding Tryd.prog os ⟨#[], #[], []⟩).heap.modify 1 fold_first).modify 2 fold_acc }
theorem fold_met (os : Os) : laidMet Tryd.prog Rows.linesFoldRow.laid ((fold_world os).forCall (fun _ _ => 0) ⟨#[], #[.string ByteArray.empty, .int .i64 0, .slice none 0 0], []⟩).memory :=
  laidMet_of_run' 8 (by kernel_rfl) (by kernel_rfl)
theorem fold_reads (os : Os) {H : Type} (enc : TypeId × Value → H) : ∃ places, DataW.whole enc Tryd.prog ((fold_world os).forCall (fun _ _ => 0) ⟨#[], #[.string ByteArray.empty, .int .i64 0, .slice none 0 0], []⟩).memory Tryd.f3.params.toList Rows.linesFoldSpec.vars false (#[.string ByteArray.empty, .int .i64 0, .slice none 0 0] : Array Value).toList 8 = some ([.lit (.string []), .lit (.int .i64 0), .nil], [], places) :=
  ⟨[], by kernel_rfl⟩

theorem fold_tabs {W : World} (h : laidMetH Tryd.prog Rows.linesFoldRow.laid W) : Lib.Utf8Tabs 1 2 W := by
  have h' : laidMet Tryd.prog Rows.linesFoldRow.laid W := h
  have e1 : (Rows.laid_unicode_utf8_first : DataW Unit) = Lib.firstData := Pinned.utf8First_eq
  have e2 : (Rows.laid_unicode_utf8_acceptRanges (H := Unit)) = Lib.acceptData := by kernel_rfl
  have X : U8Extra Tryd.prog Tryd.lays260_ren := by constructor <;> kernel_rfl
  exact utf8Tabs_of_reads Tryd.lays260 X (Lib.laidMet.reads h' (by rw [← e1]; exact List.mem_cons_of_mem _ (List.mem_cons_self ..))) (Lib.laidMet.reads h' (by rw [← e2]; exact List.mem_cons_self ..))

set_option maxRecDepth 100000 in
theorem fold_lifted (os : Os) (started : os.Started) (H : Type) (enc : TypeId × Value → H) (F : Stop.Interp) :
    ReturnsInHanded {} Tryd.checked os 3 .any ((OpenSpec.ofChange Rows.linesFoldSpec).preRow enc Tryd.prog Tryd.f3 Rows.linesFoldRow.domain false Rows.linesFoldRow.laid) (((OpenSpec.ofChange Rows.linesFoldSpec).at F).post enc Tryd.prog Tryd.f3 false true false false) := by
  obtain ⟨places, hx⟩ := fold_reads os enc
  refine law_carded (C := Tryd.checked) 4 fold_own started (by kernel_rfl) Tryd.func3 fold_laid rfl (by kernel_rfl) Tryd.underlying4 (by kernel_rfl)
    (fun ds h => by match ds, h with | [_, _, _], _ => rfl)
    (witness_row_at (enc := enc) (C := Tryd.checked) false (fold_world os) #[.string ByteArray.empty, .int .i64 0, .slice none 0 0] rfl (by kernel_rfl) (by kernel_rfl) (by kernel_rfl)
      (OpenSpec.preRow_of_cond 8 hx (by kernel_rfl) (fun k hk => by cases hk) (by kernel_rfl) (fold_met os))) ?_
  intro W base args ds p hval0 hA0 hfz hz0 hL hsh
  have hz : ∀ (j : Nat) t d, Tryd.f3.params.toList[j]? = some t → ds[j]? = some d → ∀ n ∈ d.weights Tryd.prog t, n ≤ reachBytes := hz0
  have hval : ∀ (j : Nat) t v, Tryd.f3.params[j]? = some t → args[j]? = some v → Value.okWide Tryd.prog W .any base t v := hval0
  have hA : DataW.TrodAll enc Tryd.prog W 0 (fun _ => true) true Tryd.f3.params.toList args.toList ds p := hA0
  rw [Tryd.params3] at hA hval
  obtain ⟨v0, vs0, d0, ds0, p0, q0, hargs, rfl, rfl, h0, r0⟩ := trodAll_cons hA
  obtain ⟨v1, vs1, d1, ds1, p1, q1, rfl, rfl, rfl, h1, r1⟩ := trodAll_cons r0
  obtain ⟨v2, vs2, d2, ds2, p2, q2, rfl, rfl, rfl, h2, r2⟩ := trodAll_cons r1
  obtain ⟨rfl, rfl, rfl⟩ := trodAll_nil r2
  obtain rfl : args = #[v0, v1, v2] := by cases args; simp_all
  obtain ⟨a0, rfl, _, _, _⟩ := open_string Tryd.underlying9 (hval 0 9 v0 rfl rfl) h0
  obtain ⟨a1, rfl, _, _, w1⟩ := open_int Tryd.underlying3 (hval 1 3 v1 rfl rfl) h1
  obtain ⟨l2, ao2, cap2, rfl, c2⟩ := Rd.arg_slice at_22 Tryd.underlying22 (hval 2 22 v2 rfl rfl) h2 (hz 2 22 d2 rfl rfl)
  exact law_fold a0 a1 w1 ao2 cap2 l2 W (fold_tabs hL) c2


theorem fold_said : Rows.LinesFoldSaid :=
  OpenClaim.holds_of_cond 3 Tryd.f3 rfl rfl rfl rfl rfl rfl rfl ⟨rfl, rfl, rfl, rfl, rfl⟩ rfl rfl rfl rfl rfl (by kernel_rfl) Tryd.func3 (by kernel_rfl)
    (of_decide_eq_true (by kernel_rfl)) (by unfold Func.isWrapper; rw [if_neg (of_decide_eq_false (by kernel_rfl))]; exact ⟨rfl, rfl⟩)
    (fun os started H enc _ F => by rw [OpenClaim.pre_eq_preRow]; exact fold_lifted os started H enc F)
theorem fold_plain (f : FuncId) (fn : Func) (hf : Tryd.pinned.checked.prog.funcNamed "cardcase/cardcaselaw07.LinesFold" = some f) (hfn : Tryd.pinned.checked.prog.funcs[f]? = some fn) :
    false = Tryd.pinned.checked.prog.looks [] ∧ ∀ (j : Nat) t, fn.params[j]? = some t → Tryd.pinned.checked.prog.wantsStandIn t = false := by
  obtain rfl : f = 3 := Option.some.inj ((show Tryd.prog.funcNamed "cardcase/cardcaselaw07.LinesFold" = some 3 by kernel_rfl).symm.trans hf) |>.symm
  obtain rfl : fn = Tryd.f3 := (Option.some.inj (Tryd.func3.symm.trans hfn)).symm
  refine ⟨by kernel_rfl, fun j t ht => ?_⟩
  have hall : (Tryd.f3.params.toList.all fun t => !Tryd.prog.wantsStandIn t) = true := by kernel_rfl
  have hm := List.all_eq_true.1 hall t (by simpa using Array.mem_of_getElem? ht)
  exact Bool.not_eq_true' _ ▸ hm
/-- THE CARD. -/
theorem fold_card : Rows.LinesFoldCardSaid :=
  Claim7.holds_tied_plain_at .later [] _ _ _ _ fold_said (fun _ h => by cases h) (by kernel_rfl) (fun _ h => by cases h) linesFold_row_tie rfl ⟨rfl, rfl⟩ (by kernel_rfl) rfl fold_plain (by kernel_rfl)

end Go.Proofs.YtclcahkgeaediaaDoor
