/- PropTells holds: of any property what is wrong with it, and its line, are as the document has them; whether a text is a name, too. No condition. -/
import Derived.Test.YtioeobkneikgfaaPrPrint
import Derived.Deep.RegionHeld3
namespace Go.Proofs.Ytioeobkneikgfaa
open Go.ChangeShapes Go.WideShapes Go.ChangeAt Go.RowKit Lift
open Go.ChangeMaps (open_string shut_string)
set_option linter.unusedSimpArgs false
set_option linter.unusedVariables false

theorem name_A1 : isName ⟨#[65, 45, 49]⟩ = true := by decide

set_option maxHeartbeats 8000000 in
set_option maxRecDepth 100000 in
theorem law_tells (cs : Array Value) (p : ByteArray × ByteArray × List Par × ByteArray × Nat) (name : ByteArray) (w : World) (h : rProp.rel (· < w.heap.size) w cs.toList p) :
    Calls Try.prog 4 #[.agg cs, .string name] w (TruePost w) := by
  obtain ⟨g, n, l, v, ao, cap, aa, na, ca, hv, hl, _, _, hvs⟩ := prop_arg h
  rw [hv]
  clear hv h
  by_cases hs : l.length ≤ 20 ∧ v.size ≤ 5000
  · have HG := Lib.hid (great_any g n v aa na ca ao l.length cap)
    have hA1 := name_A1
    unfold propV
    go_enter Try.func4, Try.ntmps4
    go_wp2_with fail
    refine (HG.out _ hs.1 hs.2).mono ?_
    rintro e w1 ⟨rfl, hb1⟩
    have hW : w.heap.size + 1 ≤ w1.heap.size := by have := hb1.size; simpa using this
    rw [World.size_alloc] at hb1
    obtain ⟨x0, x1, x2, x3, x4⟩ := boxCells hb1
    have hB1 : Below w.heap.size w w1 := ((Below.refl _ _).alloc (Nat.le_refl _) _).trans (hb1.mono (by omega))
    go_wp2_with fail
    refine (own_any _ _ _ _ _ _ _ _ _ _ (hl.at'.old hB1).here hl.nil (by omega)).mono ?_
    rintro e w2 ⟨ao2, cap2, rfl, hO2, hb2⟩
    have hB2 := chain hB1 hb2
    have hb12 := hb1.trans (hb2.mono hW)
    have hz2 := hb2.size
    have HP1 := Lib.hid (print_any g n v aa na ca ao2 cap2 l w2 hO2.here (by omega) (by omega))
    clear hO2 x0 x1 x2 x3 x4
    unfold propV at *
    go_wp2_with fail
    refine HP1.out.mono ?_
    rintro e w3 ⟨rfl, hb3⟩
    have hB3 := chain hB2 hb3
    have hb13 := hb12.trans (hb3.mono (by omega))
    have hz3 := hb3.size
    have HP2 := Lib.hid (print_ref g n v aa na ca ao cap l w3 (hl.at'.old hB3).here (by omega) (by omega))
    unfold propV at HP2
    obtain ⟨x0, x1, x2, x3, x4⟩ := boxCells hb13
    clear HP1
    go_wp2_with fail
    clear x0 x1 x2 x3 x4
    refine HP2.out.mono ?_
    rintro e w4 ⟨rfl, hb4⟩
    have hB4 := chain hB3 hb4
    have hb14 := hb13.trans (hb4.mono (by omega))
    have hz4 := hb4.size
    clear HP2
    have hl4 := hl.at'.old hB4
    have hlt : w.heap.size < w4.heap.size := by omega
    have HK := Lib.hid (show ∀ w', Below w4.heap.size w4 w' → Below w4.heap.size w4 w' ∧ w'.cell? ⟨w.heap.size, 0, none⟩ = some (.string g) ∧ w'.cell? ⟨w.heap.size, 1, none⟩ = some (.string n) ∧ w'.cell? ⟨w.heap.size, 2, none⟩ = some (.slice ao l.length cap) ∧ w'.cell? ⟨w.heap.size, 3, none⟩ = some (.string v) ∧ w'.cell? ⟨w.heap.size, 4, none⟩ = some (.slice aa na ca) by
      intro w' hb
      exact ⟨hb, boxCells (hb14.trans (hb.mono (by omega)))⟩)
    clear hb1 hb2 hb3 hb4 hb12 hb13 hb14 hB1 hB2 hB3 HG
    have hb0 := Below.refl w4.heap.size w4
    have hnil := hl.nil
    generalize printP g n l v na = pr
    obtain ⟨p1, p2⟩ := pr
    have HC1 := Lib.hid (fun ao cap w hl => check_any g n v aa na ca ao cap l w hl (by omega) (by omega))
    have HC2 := Lib.hid (fun ao cap w hl => check_ref g n v aa na ca ao cap l w hl (by omega) (by omega))
    generalize chkP g n l v na = q at HC1 HC2
    unfold propV at HC1 HC2
    go_wp2_with fail
    go_region_held3 (fun w' => Below w4.heap.size w4 w' ∧ w'.cell? ⟨w.heap.size, 0, none⟩ = some (.string g) ∧ w'.cell? ⟨w.heap.size, 1, none⟩ = some (.string n) ∧ w'.cell? ⟨w.heap.size, 2, none⟩ = some (.slice ao l.length cap) ∧ w'.cell? ⟨w.heap.size, 3, none⟩ = some (.string v) ∧ w'.cell? ⟨w.heap.size, 4, none⟩ = some (.slice aa na ca))
      (first | exact HK.out _ (by assumption) | exact HK.out _ (chain (‹Below w4.heap.size w4 _ ∧ _›).1 (by assumption)) | exact HK.out _ (Below.drew (by assumption)))
      (first
        | (go_at_call 8; refine (own_any g n v aa na ca ao cap l _ ?_ hnil (by omega)).mono ?_; exact (hl4.old ((‹Below w4.heap.size w4 _ ∧ _›).1.mono (by omega))).here; rintro e w5 ⟨ao5, cap5, rfl, hO5, hb5⟩; unfold propV)
        | (go_at_call 16; refine (HC1.out ao5 cap5 _ ?_).mono ?_; (first | exact hO5.here | exact (hO5.below hb6).here); rintro e w7 ⟨rfl, hb7⟩; clear hO5)
        | (go_at_call 17; refine (HC2.out ao cap _ ?_).mono ?_; exact (hl4.old ((‹Below w4.heap.size w4 _ ∧ _›).1.mono (by omega))).here; rintro e w6 ⟨rfl, hb6⟩)
        | (go_at_call 18; refine (name_any _ _).mono ?_; rintro e w8 ⟨rfl, hb8⟩)
        | (go_at_call 19; refine (name_ref _ _).mono ?_; rintro e w9 ⟨rfl, hb9⟩))
    all_goals
      go_wp2_with fail
      go_ret
      exact ⟨rfl, hB4.trans ((‹Below w4.heap.size w4 _ ∧ _›).1.mono hB4.size)⟩
  · have HG := Lib.hid (great_yes g n v aa na ca ao l.length cap)
    unfold propV
    go_enter Try.func4, Try.ntmps4
    go_wp2_with fail
    refine (HG.out _ hs).mono ?_
    rintro e w1 ⟨rfl, hb1⟩
    go_wp2_with fail
    go_ret
    exact ⟨rfl, ((Below.refl _ _).alloc (Nat.le_refl _) _).trans (hb1.mono (by simp))⟩

theorem tells_own : ownKnob Try.prog.godebug = none := by kernel_rfl
theorem tells_laid : laidOutB Try.prog = true := by kernel_rfl

set_option maxRecDepth 100000 in
theorem tells_lifted (os : Os) (started : os.Started) (H : Type) (enc : TypeId × Value → H) :
    ReturnsInHanded {} Try.checked os 4 .any (Rows.propTellsSpec.pre6 enc Try.prog Try.f4 Rows.propTellsRow.domain false) (Rows.propTellsSpec.post enc Try.prog Try.f4 false true false false) := by
  refine law_lifted (C := Try.checked) 4 tells_own started (by kernel_rfl) Try.func4 tells_laid rfl (by kernel_rfl) Try.underlying4 (by kernel_rfl)
    (fun ds h => by match ds, h with | [_, _], _ => rfl)
    (ChangeSpec.witness6 (enc := enc) (C := Try.checked) false ⟨#[], #[.agg #[.string ByteArray.empty, .string ByteArray.empty, .slice none 0 0, .string ByteArray.empty, .slice none 0 0], .string ByteArray.empty], []⟩ 8 (by kernel_rfl) (by kernel_rfl) (by kernel_rfl) (by kernel_rfl)) ?_
  intro W base args ds p hval0 hA0 hfz hz0
  have hz : ∀ (j : Nat) t d, Try.f4.params.toList[j]? = some t → ds[j]? = some d → ∀ n ∈ d.weights Try.prog t, n ≤ reachBytes := hz0
  have hval : ∀ (j : Nat) t v, Try.f4.params[j]? = some t → args[j]? = some v → Value.okWide Try.prog W .any base t v := hval0
  have hA : DataW.TrodAll enc Try.prog W 0 (fun _ => true) true Try.f4.params.toList args.toList ds p := hA0
  rw [Try.params4] at hA hval
  obtain ⟨v0, vs0, d0, ds0, p0, q0, hargs, rfl, rfl, h0, r0⟩ := trodAll_cons hA
  obtain ⟨v1, vs1, d1, ds1, p1, q1, rfl, rfl, rfl, h1, r1⟩ := trodAll_cons r0
  obtain ⟨rfl, rfl, rfl⟩ := trodAll_nil r1
  obtain rfl : args = #[v0, v1] := by cases args; simp_all
  obtain ⟨l0, cs0, rfl, c0⟩ := Rd.arg_struct at_25 Try.underlying25 (hval 0 25 v0 rfl rfl) h0 (hz 0 25 d0 rfl rfl)
  obtain ⟨a1, rfl, _, _, _⟩ := open_string Try.underlying9 (hval 1 9 v1 rfl rfl) h1
  exact law_tells cs0 l0 a1 W c0

theorem tells_holds : Rows.PropTellsSaid :=
  OpenClaim.holds_of_wide 4 Try.f4 rfl rfl rfl rfl rfl rfl rfl ⟨rfl, rfl, rfl, rfl, rfl⟩ rfl rfl rfl rfl rfl (by kernel_rfl) Try.func4 (by kernel_rfl)
    (of_decide_eq_true (by kernel_rfl)) (by unfold Func.isWrapper; rw [if_neg (of_decide_eq_false (by kernel_rfl))]; exact ⟨rfl, rfl⟩)
    (fun os started H enc _ => tells_lifted os started H enc)

end Go.Proofs.Ytioeobkneikgfaa
