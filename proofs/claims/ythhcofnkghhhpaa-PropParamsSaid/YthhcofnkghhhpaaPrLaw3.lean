/- PropParams holds: of every property a parameter's value, and what is left without it, are as the reference has them. No condition. -/
import Derived.Test.YthhcofnkghhhpaaPr3
import Derived.Deep.RegionHeld3
namespace Go.Proofs.Ythhcofnkghhhpaa
open Go.ChangeShapes Go.WideShapes Go.ChangeAt Go.RowKit Lift
open Go.ChangeMaps (open_string shut_string)
set_option linter.unusedSimpArgs false
set_option linter.unusedVariables false

theorem rPar_at : rPar.at Try.prog 42 := Rd.at_struct Try.underlying42 (by kernel_rfl) (Rd.atF_cons (Rd.at_str Try.underlying9 (by kernel_rfl)) rfl (Rd.atF_one (Rd.at_str Try.underlying9 (by kernel_rfl)) rfl))
theorem rPars_at : rPar.slice.at Try.prog 22 := Rd.at_slice Try.underlying22 (by kernel_rfl) rPar_at (by decide)
abbrev rProp : Rd (ByteArray × ByteArray × List Par × ByteArray × Nat) := Rd.str.pair (Rd.str.pair (rPar.slice.pair (Rd.str.pair Rd.hdr)))
theorem at_25 : rProp.at Try.prog 25 :=
  Rd.at_struct Try.underlying25 (by kernel_rfl) (Rd.atF_cons (Rd.at_str Try.underlying9 (by kernel_rfl)) rfl (Rd.atF_cons (Rd.at_str Try.underlying9 (by kernel_rfl)) rfl
    (Rd.atF_cons rPars_at rfl (Rd.atF_cons (Rd.at_str Try.underlying9 (by kernel_rfl)) rfl (Rd.atF_one (Rd.at_hdr Try.underlying23 (by kernel_rfl)) rfl)))))

/-- A property that came in. -/
theorem prop_arg {w : World} {cs : Array Value} {p : ByteArray × ByteArray × List Par × ByteArray × Nat} (h : rProp.rel (· < w.heap.size) w cs.toList p) :
    ∃ g n l v ao cap aa na ca, Value.agg cs = propV g n ao l.length cap v aa na ca ∧ SlArg rPar w ao cap l ∧ v.size ≤ maxLen := by
  obtain ⟨c1, d1, h1, ⟨rfl, _⟩, c2, d2, rfl, ⟨rfl, _⟩, c3, d3, rfl, ⟨ao, cap, rfl, h2, h3, h4, h5⟩, c4, d4, rfl, ⟨rfl, h6⟩, ⟨aa, ca, rfl⟩⟩ := h
  refine ⟨p.1, p.2.1, p.2.2.1, p.2.2.2.1, ao, cap, aa, p.2.2.2.2, ca, ?_, ⟨h2, h3, h4, h5⟩, h6⟩
  have : cs = #[.string p.1, .string p.2.1, .slice ao p.2.2.1.length cap, .string p.2.2.2.1, .slice aa p.2.2.2.2 ca] := Array.toList_inj.1 (by rw [h1]; rfl)
  rw [this]; rfl

theorem without_any (g n v name : ByteArray) (aa : Option Addr) (na ca : Nat) (ao : Option Addr) (cap : Nat) (l : List Par) (w : World) (hl : SlAt rPar (· < w.heap.size) w ao l) (hcap : ao = none → cap = 0) (hlen : l.length ≤ 100000) :
    Calls Try.prog 12 #[propV g n ao l.length cap v aa na ca, .string name] w (PropPost g n (l.filter fun c => !decide (c.1 = name)) v aa na ca w) := by
  cases ao with
  | none =>
    obtain rfl := hcap rfl
    rcases hl with rfl | ⟨b, off, h, _⟩
    · exact without_nil _ _ _ _ _ _ _ _
    · cases h
  | some a => exact without_some _ _ _ _ _ _ _ _ _ _ _ hl hlen

theorem boxCells {g n v : ByteArray} {ao : Option Addr} {len cap : Nat} {aa : Option Addr} {na ca : Nat} {w w' : World} (h : Below (w.heap.size + 1) (w.alloc (propC g n ao len cap v aa na ca)) w') :
    w'.cell? ⟨w.heap.size, 0, none⟩ = some (.string g) ∧ w'.cell? ⟨w.heap.size, 1, none⟩ = some (.string n) ∧ w'.cell? ⟨w.heap.size, 2, none⟩ = some (.slice ao len cap) ∧ w'.cell? ⟨w.heap.size, 3, none⟩ = some (.string v) ∧ w'.cell? ⟨w.heap.size, 4, none⟩ = some (.slice aa na ca) := by
  obtain ⟨hc, _⟩ := bcell h
  refine ⟨?_, ?_, ?_, ?_, ?_⟩
  all_goals (rw [hc _ _ (by omega)]; simp [go_sem])

set_option maxHeartbeats 1000000 in
set_option maxRecDepth 100000 in
theorem law_params (cs : Array Value) (p : ByteArray × ByteArray × List Par × ByteArray × Nat) (name : ByteArray) (w : World) (h : rProp.rel (· < w.heap.size) w cs.toList p) :
    Calls Try.prog 3 #[.agg cs, .string name] w (TruePost w) := by
  obtain ⟨g, n, l, v, ao, cap, aa, na, ca, hv, hl, hvs⟩ := prop_arg h
  rw [hv]
  clear hv h
  by_cases hs : l.length ≤ 20 ∧ v.size ≤ 5000
  · have HG := Lib.hid (great_any g n v aa na ca ao l.length cap)
    unfold propV
    go_enter Try.func3, Try.ntmps3
    go_wp2_with fail
    refine (HG.out _ hs.1 hs.2).mono ?_
    rintro e w1 ⟨rfl, hb1⟩
    have hW : w.heap.size + 1 ≤ w1.heap.size := by have := hb1.size; simpa using this
    rw [World.size_alloc] at hb1
    obtain ⟨x0, x1, x2, x3, x4⟩ := boxCells hb1
    have hB1 : Below w.heap.size w w1 := ((Below.refl _ _).alloc (Nat.le_refl _) _).trans (hb1.mono (by omega))
    go_wp2_with fail
    refine (own_any _ _ _ _ _ _ _ _ _ _ (hl.at'.old hB1).here hl.nil (by omega)).mono ?_
    rintro e w2 ⟨ao2, cap2, rfl, hO2, hb2⟩
    have hB2 := chain hB1 hb2
    have hb12 := hb1.trans (hb2.mono hW)
    have hz2 := hb2.size
    obtain ⟨u0, u1, u2, u3, u4⟩ := boxCells hb12
    have hO2' := hO2.rebase (Nat.le_of_lt hW)
    clear x0 x1 x2 x3 x4
    have hA3 : Below w2.heap.size w2 (w2.alloc (propC g n ao2 l.length cap2 v aa na ca)) := (Below.refl _ _).alloc (Nat.le_refl _) _
    have HP1 := Lib.hid (param_any g n v name aa na ca ao2 cap2 l (w2.alloc (propC g n ao2 l.length cap2 v aa na ca)) (hO2.below hA3).here (by omega))
    have HP2 := Lib.hid (param_ref g n v name aa na ca ao cap l)
    unfold propV
    go_wp2_with fail
    refine HP1.out.mono ?_
    rintro e w3 ⟨rfl, hb3⟩
    rw [World.size_alloc] at hb3
    have hz3 : w2.heap.size + 1 ≤ w3.heap.size := by have := hb3.size; simpa using this
    have hB23 := hA3.trans (hb3.mono (by omega))
    have hb13 := hb12.trans (hB23.mono (by omega))
    obtain ⟨u0, u1, u2, u3, u4⟩ := boxCells hb13
    go_wp2_with fail
    have hB3 := chain hB2 hB23
    refine (HP2.out _ (hl.at'.old hB3).here (by omega)).mono ?_
    rintro e w4 ⟨rfl, hb4⟩
    have hB4 := chain hB3 hb4
    have hz4 := hb4.size
    have hb14 := hb13.trans (hb4.mono (by omega))
    have hb24 := hb3.trans (hb4.mono (by omega))
    obtain ⟨u0, u1, u2, u3, u4⟩ := boxCells hb14
    obtain ⟨v0, v1, v2, v3, v4⟩ := boxCells hb24
    have hO4 := hO2.below (hB23.trans (hb4.mono (by omega)))
    have hl4 := hl.at'.old hB4
    have hlt : w.heap.size < w4.heap.size := by omega
    have hlt2 : w2.heap.size < w4.heap.size := by omega
    have HK := Lib.hid (show ∀ w', Below w4.heap.size w4 w' → Below w4.heap.size w4 w' ∧ w'.cell? ⟨w.heap.size, 0, none⟩ = some (.string g) ∧ w'.cell? ⟨w.heap.size, 1, none⟩ = some (.string n) ∧ w'.cell? ⟨w.heap.size, 2, none⟩ = some (.slice ao l.length cap) ∧ w'.cell? ⟨w.heap.size, 3, none⟩ = some (.string v) ∧ w'.cell? ⟨w.heap.size, 4, none⟩ = some (.slice aa na ca) ∧
        w'.cell? ⟨w2.heap.size, 0, none⟩ = some (.string g) ∧ w'.cell? ⟨w2.heap.size, 1, none⟩ = some (.string n) ∧ w'.cell? ⟨w2.heap.size, 2, none⟩ = some (.slice ao2 l.length cap2) ∧ w'.cell? ⟨w2.heap.size, 3, none⟩ = some (.string v) ∧ w'.cell? ⟨w2.heap.size, 4, none⟩ = some (.slice aa na ca) by
      intro w' hb
      obtain ⟨hc, _⟩ := bcell hb
      refine ⟨hb, ?_⟩
      rw [hc _ _ hlt, hc _ _ hlt, hc _ _ hlt, hc _ _ hlt, hc _ _ hlt, hc _ _ hlt2, hc _ _ hlt2, hc _ _ hlt2, hc _ _ hlt2, hc _ _ hlt2]
      exact ⟨u0, u1, u2, u3, u4, v0, v1, v2, v3, v4⟩)
    clear hb1 hb2 hb3 hb4 hb12 hb13 hb14 hb24 hB1 hB2 hB3 hB23 hO2 hO2' hA3 HP1 HP2 HG
    have hb0 := Below.refl w4.heap.size w4
    have hpr := Lib.hid (rfl : parOf name l = parOf name l)
    generalize parOf name l = pr
    obtain ⟨p1, p2⟩ := pr
    go_wp2_with fail
    go_region_held3 (fun w' => Below w4.heap.size w4 w' ∧ w'.cell? ⟨w.heap.size, 0, none⟩ = some (.string g) ∧ w'.cell? ⟨w.heap.size, 1, none⟩ = some (.string n) ∧ w'.cell? ⟨w.heap.size, 2, none⟩ = some (.slice ao l.length cap) ∧ w'.cell? ⟨w.heap.size, 3, none⟩ = some (.string v) ∧ w'.cell? ⟨w.heap.size, 4, none⟩ = some (.slice aa na ca) ∧
        w'.cell? ⟨w2.heap.size, 0, none⟩ = some (.string g) ∧ w'.cell? ⟨w2.heap.size, 1, none⟩ = some (.string n) ∧ w'.cell? ⟨w2.heap.size, 2, none⟩ = some (.slice ao2 l.length cap2) ∧ w'.cell? ⟨w2.heap.size, 3, none⟩ = some (.string v) ∧ w'.cell? ⟨w2.heap.size, 4, none⟩ = some (.slice aa na ca))
      (first | exact HK.out _ (by assumption) | exact HK.out _ (chain (‹Below w4.heap.size w4 _ ∧ _›).1 (by assumption)) | exact HK.out _ (Below.drew (by assumption)))
      (first
        | (go_at_call 12; refine (without_any g n v name aa na ca ao2 cap2 l _ ?_ ?_ ?_).mono ?_; exact (hO4.below (‹Below w4.heap.size w4 _ ∧ _›).1).here; exact hO4.cap.2.2.2; omega; rintro e w5 ⟨ao5, cap5, rfl, hO5, hb5⟩; unfold propV)
        | (go_at_call 13; refine (without_ref g n v name aa na ca ao cap l _ ?_ ?_).mono ?_; exact (hl4.old ((‹Below w4.heap.size w4 _ ∧ _›).1.mono (by omega))).here; omega; rintro e w6 ⟨ao6, cap6, rfl, hO6, hb6⟩; unfold propV)
        | (go_at_call 11; have _t := hO5; refine (same_prop g n v aa aa na ca ca ao5 ao6 cap5 cap6 (l.filter fun c => !decide (c.1 = name)) _ ?_ ?_ (Nat.le_trans (List.length_filter_le _ _) (by omega))).mono ?_; (first | exact hO5.here | exact (hO5.below hb6).here); (first | exact hO6.here | exact (hO6.below hb5).here); rintro e w7 ⟨rfl, hb7⟩; clear _t hO5 hO6)
        | (go_at_call 11; refine (same_prop g n v aa aa na ca ca ao2 ao cap2 cap l _ ?_ ?_ (by omega)).mono ?_; exact (hO4.below (‹Below w4.heap.size w4 _ ∧ _›).1).here; exact (hl4.old ((‹Below w4.heap.size w4 _ ∧ _›).1.mono (by omega))).here; rintro e w8 ⟨rfl, hb8⟩))
    all_goals
      go_wp2_with fail
      go_ret
      exact ⟨rfl, hB4.trans ((‹Below w4.heap.size w4 _ ∧ _›).1.mono hB4.size)⟩
  · have HG := Lib.hid (great_yes g n v aa na ca ao l.length cap)
    unfold propV
    go_enter Try.func3, Try.ntmps3
    go_wp2_with fail
    refine (HG.out _ hs).mono ?_
    rintro e w1 ⟨rfl, hb1⟩
    go_wp2_with fail
    go_ret
    exact ⟨rfl, ((Below.refl _ _).alloc (Nat.le_refl _) _).trans (hb1.mono (by simp))⟩

theorem params_own : ownKnob Try.prog.godebug = none := by kernel_rfl
theorem params_laid : laidOutB Try.prog = true := by kernel_rfl

set_option maxRecDepth 100000 in
theorem params_lifted (os : Os) (started : os.Started) (H : Type) (enc : TypeId × Value → H) :
    ReturnsInHanded {} Try.checked os 3 .any (Rows.propParamsSpec.pre6 enc Try.prog Try.f3 Rows.propParamsRow.domain false) (Rows.propParamsSpec.post enc Try.prog Try.f3 false true false false) := by
  refine law_lifted (C := Try.checked) 4 params_own started (by kernel_rfl) Try.func3 params_laid rfl (by kernel_rfl) Try.underlying4 (by kernel_rfl)
    (fun ds h => by match ds, h with | [_, _], _ => rfl)
    (ChangeSpec.witness6 (enc := enc) (C := Try.checked) false ⟨#[], #[.agg #[.string ByteArray.empty, .string ByteArray.empty, .slice none 0 0, .string ByteArray.empty, .slice none 0 0], .string ByteArray.empty], []⟩ 8 (by kernel_rfl) (by kernel_rfl) (by kernel_rfl) (by kernel_rfl)) ?_
  intro W base args ds p hval0 hA0 hfz
  have hval : ∀ (j : Nat) t v, Try.f3.params[j]? = some t → args[j]? = some v → Value.okWide Try.prog W .any base t v := hval0
  have hA : DataW.TrodAll enc Try.prog W 0 (fun _ => true) true Try.f3.params.toList args.toList ds p := hA0
  rw [Try.params3] at hA hval
  obtain ⟨v0, vs0, d0, ds0, p0, q0, hargs, rfl, rfl, h0, r0⟩ := trodAll_cons hA
  obtain ⟨v1, vs1, d1, ds1, p1, q1, rfl, rfl, rfl, h1, r1⟩ := trodAll_cons r0
  obtain ⟨rfl, rfl, rfl⟩ := trodAll_nil r1
  obtain rfl : args = #[v0, v1] := by cases args; simp_all
  obtain ⟨l0, cs0, rfl, c0⟩ := Rd.arg_struct at_25 Try.underlying25 (hval 0 25 v0 rfl rfl) h0
  obtain ⟨a1, rfl, _, _, _⟩ := open_string Try.underlying9 (hval 1 9 v1 rfl rfl) h1
  exact law_params cs0 l0 a1 W c0

theorem params_holds : Rows.PropParamsSaid :=
  OpenClaim.holds_of_wide 3 Try.f3 rfl rfl rfl rfl rfl rfl rfl ⟨rfl, rfl, rfl, rfl, rfl⟩ rfl rfl rfl rfl rfl (by kernel_rfl) Try.func3 (by kernel_rfl)
    (of_decide_eq_true (by kernel_rfl)) (by unfold Func.isWrapper; rw [if_neg (of_decide_eq_false (by kernel_rfl))]; exact ⟨rfl, rfl⟩)
    (fun os started H enc _ => params_lifted os started H enc)

end Go.Proofs.Ythhcofnkghhhpaa
