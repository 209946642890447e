/- ContactTells holds: of every two fields the order, of every two contacts whether they are the same, and a field of a name, are as the reference has them. No condition. -/
import Derived.Test.YtmgckaokjhfkaaaCo5
import Derived.Deep.RegionHeld3
namespace Go.Proofs.Ytmgckaokjhfkaaa
open Go.ChangeShapes Go.WideShapes Go.ChangeAt Go.RowKit Lift
open Go.ChangeMaps (open_string shut_string)
set_option linter.unusedSimpArgs false
set_option linter.unusedVariables false


theorem rFld_at : rFld.at Try.prog 34 := Rd.at_struct Try.underlying34 (by kernel_rfl) (Rd.atF_cons (Rd.at_str Try.underlying9 (by kernel_rfl)) rfl (Rd.atF_cons (Rd.at_str Try.underlying9 (by kernel_rfl)) rfl (Rd.atF_one (Rd.at_str Try.underlying9 (by kernel_rfl)) rfl)))
theorem rFlds_at : rFld.slice.at Try.prog 22 := Rd.at_slice Try.underlying22 (by kernel_rfl) rFld_at (by decide)
theorem at_24 : rFld.slice.at Try.prog 24 := Rd.at_struct Try.underlying24 (by kernel_rfl) (Rd.atF_one rFlds_at rfl)

/-- A contact that came in. -/
theorem con_arg {w : World} {cs : Array Value} {l : List Fld} (h : rFld.slice.rel (· < w.heap.size) w cs.toList l) : ∃ ao cap, Value.agg cs = .agg #[.slice ao l.length cap] ∧ SlArg rFld w ao cap l := by
  obtain ⟨ao, cap, h1, h2, h3, h4, h5⟩ := h
  refine ⟨ao, cap, ?_, ⟨h2, h3, h4, h5⟩⟩
  rw [show cs = #[.slice ao l.length cap] from Array.toList_inj.1 h1]

theorem boxes2 {w w' : World} {ao bo : Option Addr} {n cap n2 cap2 : Nat} (h : Below (w.heap.size + 1 + 1) ((w.alloc (.cells #[.slice ao n cap] 24)).alloc (.cells #[.slice bo n2 cap2] 24)) w') :
    w'.cell? ⟨w.heap.size, 0, none⟩ = some (.slice ao n cap) ∧ w'.cell? ⟨w.heap.size + 1, 0, none⟩ = some (.slice bo n2 cap2) := by
  obtain ⟨hc, _⟩ := bcell h
  exact ⟨by rw [hc _ _ (by omega)]; simp [go_sem], by rw [hc _ _ (by omega)]; simp [go_sem]⟩


set_option maxHeartbeats 1000000 in
set_option maxRecDepth 100000 in
theorem law_tells (cs : Array Value) (l : List Fld) (ds : Array Value) (m : List Fld) (name : ByteArray) (w : World) (h1 : rFld.slice.rel (· < w.heap.size) w cs.toList l) (h2 : rFld.slice.rel (· < w.heap.size) w ds.toList m) :
    Calls Try.prog 4 #[.agg cs, .agg ds, .string name] w (TruePost w) := by
  obtain ⟨ao, cap, e1, hl⟩ := con_arg h1
  obtain ⟨bo, cap2, e2, hm⟩ := con_arg h2
  rw [e1, e2]
  clear e1 e2 h1 h2
  have hll : l.length ≤ 9223372036854775807 := by have := Nat.le_trans hl.le hl.max; simpa [maxLen] using this
  have hml : m.length ≤ 9223372036854775807 := by have := Nat.le_trans hm.le hm.max; simpa [maxLen] using this
  have hA : Below w.heap.size w ((w.alloc (.cells #[.slice ao l.length cap] 24)).alloc (.cells #[.slice bo m.length cap2] 24)) := ((Below.refl _ _).alloc (Nat.le_refl _) _).alloc (by simp) _
  have HG1 := Lib.hid (fun wx hx => great_con ao cap l wx hx hll)
  have HG2 := Lib.hid (fun wx hx => great_con bo cap2 m wx hx hml)
  cases hg1 : greatF 8000 0 l with
  | true =>
    rw [hg1] at HG1
    clear hg1 HG2
    go_enter Try.func4, Try.ntmps4
    go_wp2_with fail
    refine (HG1.out _ (hl.at'.old hA).here).mono ?_
    rintro e w1 ⟨rfl, hb1⟩
    go_wp2_with fail
    go_ret
    exact ⟨rfl, chain hA hb1⟩
  | false =>
    cases hg2 : greatF 8000 0 m with
    | true =>
      rw [hg1] at HG1
      rw [hg2] at HG2
      clear hg1 hg2
      go_enter Try.func4, Try.ntmps4
      go_wp2_with fail
      refine (HG1.out _ (hl.at'.old hA).here).mono ?_
      rintro e w1 ⟨rfl, hb1⟩
      simp only [World.size_alloc] at hb1
      obtain ⟨x0, y0⟩ := boxes2 hb1
      go_wp2_with fail
      refine (HG2.out _ (hm.at'.old (chain hA (by simpa using hb1))).here).mono ?_
      rintro e w2 ⟨rfl, hb2⟩
      go_wp2_with fail
      go_ret
      exact ⟨rfl, chain (chain hA (by simpa using hb1)) hb2⟩
    | false =>
      have hl61 := greatF_len _ _ _ hg1
      have hm61 := greatF_len _ _ _ hg2
      rw [hg1] at HG1
      rw [hg2] at HG2
      clear hg1 hg2
      have hl1 : l.length ≤ 100000 := by omega
      have hm1 : m.length ≤ 100000 := by omega
      clear hl61 hm61 hll hml
      have hln := hl.nil
      have hmn := hm.nil
      have HLN := Lib.hid hln
      have HMN := Lib.hid hmn
      have hla := hl.at'
      have hma := hm.at'
      clear hln hmn hl hm
      go_enter Try.func4, Try.ntmps4
      go_wp2_with fail
      refine (HG1.out _ (hla.old hA).here).mono ?_
      rintro e w1 ⟨rfl, hb1⟩
      have hB1 := chain hA hb1
      simp only [World.size_alloc] at hb1
      obtain ⟨x0, y0⟩ := boxes2 hb1
      have hz1 : w.heap.size + 1 + 1 ≤ w1.heap.size := by have := hb1.size; simpa using this
      go_wp2_with fail
      refine (HG2.out _ (hma.old hB1).here).mono ?_
      rintro e w2 ⟨rfl, hb2⟩
      have hb12 := hb1.trans (hb2.mono hz1)
      clear x0 y0 hb1 hb2 hB1 hz1 HG1 HG2
      go_wp2_with fail
      go_loopw [7] (fun v7 wr => ∃ k : Nat, k ≤ l.length ∧ v7 = .int .i64 k ∧ Below (w.heap.size + 1 + 1) ((w.alloc (.cells #[.slice ao l.length cap] 24)).alloc (.cells #[.slice bo m.length cap2] 24)) wr) (fun v7 _ => l.length - (intOf v7).toNat)
      case atStart => exact ⟨0, by omega, rfl, hb12⟩
      case round =>
        obtain ⟨k, hk, rfl, hb⟩ := hrel
        obtain ⟨x0, y0⟩ := boxes2 hb
        have hB := hA.trans (hb.mono (by omega))
        have hz := hb.size
        simp only [World.size_alloc] at hz
        by_cases hkl : k < l.length
        · obtain ⟨wo, rfl⟩ : ∃ wo : World, wo = wr := ⟨_, rfl⟩
          obtain ⟨c, hcl⟩ := some_at hkl
          have hk2 : (k : Int) < (l.length : Int) := by omega
          go_wp2_with fail
          go_loopw [8] (fun v8 wr => ∃ j : Nat, j ≤ m.length ∧ v8 = .int .i64 j ∧ Below (w.heap.size + 1 + 1) ((w.alloc (.cells #[.slice ao l.length cap] 24)).alloc (.cells #[.slice bo m.length cap2] 24)) wr) (fun v8 _ => m.length - (intOf v8).toNat)
          case atStart => exact ⟨0, by omega, rfl, hb⟩
          case round =>
            obtain ⟨j, hj, rfl, hb⟩ := hrel
            obtain ⟨x0, y0⟩ := boxes2 hb
            have hB := hA.trans (hb.mono (by omega))
            have hz := hb.size
            simp only [World.size_alloc] at hz
            by_cases hjm : j < m.length
            · obtain ⟨d, hdm⟩ := some_at hjm
              have hj2 : (j : Int) < (m.length : Int) := by omega
              obtain ⟨bb, oo, rfl, hs1, hb4, hok, u0, u1, u2⟩ := fld_get (hla.old hB) hcl
              obtain ⟨b2, o2, rfl, hs2, hb5, hok2, v0, v1, v2⟩ := fld_get (hma.old hB) hdm
              have HC1 := Lib.hid (fun x : Bel wr => compare_any c d x.w')
              have HC2 := Lib.hid (fun x : Bel wr => compare_ref c d x.w')
              generalize cmpF c d = n at HC1 HC2
              unfold encFld at HC1 HC2
              have hlt0 : w.heap.size < wr.heap.size := by omega
              have hlt1 : w.heap.size + 1 < wr.heap.size := by omega
              have q0 : ∀ x : Bel wr, _ := fun x => x.cell x0 hlt0
              have q1 : ∀ x : Bel wr, _ := fun x => x.cell y0 hlt1
              have q2 : ∀ x : Bel wr, _ := fun x => x.cell u0 hb4
              have q3 : ∀ x : Bel wr, _ := fun x => x.cell u1 hb4
              have q4 : ∀ x : Bel wr, _ := fun x => x.cell u2 hb4
              have q5 : ∀ x : Bel wr, _ := fun x => x.cell v0 hb5
              have q6 : ∀ x : Bel wr, _ := fun x => x.cell v1 hb5
              have q7 : ∀ x : Bel wr, _ := fun x => x.cell v2 hb5
              have hlimk : k ≤ 100000 := by omega
              have hlimj : j ≤ 100000 := by omega
              go_wp2_with fail
              (refine wp_region_bel (by kernel_rfl) (by kernel_rfl) ?_; (repeat (any_goals (go_big_quiet_step (((first | (go_at_call 14; exact Bel.call (HC1.out _)) | (go_at_call 15; exact Bel.call (HC2.out _)))))))); all_goals (refine wpQuiet_nil ?_; intro wq hw'; obtain ⟨⟨wq2, hwq⟩, hw''⟩ := hw'; have hw3 : wq = wq2 := hw''; clear hw''; subst hw3))
              go_wp2_with fail
              go_roundw
              case measure => simp [intOf]; omega
              case rel => exact ⟨j + 1, by omega, by go_num, hb.trans (hwq.mono (by omega))⟩
            · obtain rfl : j = m.length := by omega
              go_wp2_with fail
              go_roundw
              case measure => simp [intOf]; omega
              case rel => exact ⟨k + 1, by omega, by go_num, hb⟩
        · obtain rfl : k = l.length := by omega
          go_wp2_with fail
          refine (con_own ao cap l _ (hla.old hB).here HLN.out hl1).mono ?_
          rintro e w3 ⟨ao3, cap3, rfl, hO3, hb3⟩
          have hB3 := chain hB hb3
          have hb13 := hb.trans (hb3.mono (by omega))
          have hz3 := hb3.size
          obtain ⟨x0, y0⟩ := boxes2 hb13
          go_wp2_with fail
          refine (get_any name ao3 cap3 l _ hO3.here hl1).mono ?_
          rintro e w4 ⟨rfl, hb4⟩
          have hB4 := chain hB3 hb4
          have hb14 := hb13.trans (hb4.mono (by omega))
          have hz4 := hb4.size
          obtain ⟨x0, y0⟩ := boxes2 hb14
          go_wp2_with fail
          refine (get_ref name ao cap l _ (hla.old hB4).here hl1).mono ?_
          rintro e w5 ⟨rfl, hb5⟩
          have hB5 := chain hB4 hb5
          have hb15 := hb14.trans (hb5.mono (by omega))
          have hz5 := hb5.size
          obtain ⟨x0, y0⟩ := boxes2 hb15
          generalize fldOf name l = pr
          obtain ⟨p1, p2⟩ := pr
          have hlt0 : w.heap.size < w5.heap.size := by omega
          have hlt1 : w.heap.size + 1 < w5.heap.size := by omega
          have HK := Lib.hid (show ∀ w', Below w5.heap.size w5 w' → Below w5.heap.size w5 w' ∧ w'.cell? ⟨w.heap.size, 0, none⟩ = some (.slice ao l.length cap) ∧ w'.cell? ⟨w.heap.size + 1, 0, none⟩ = some (.slice bo m.length cap2) by
            intro w' hb
            obtain ⟨hc, _⟩ := bcell hb
            exact ⟨hb, (hc _ _ hlt0).trans x0, (hc _ _ hlt1).trans y0⟩)
          have HL := Lib.hid (fun wx (h : Below w5.heap.size w5 wx) => ((hla.old hB5).here.old h).here)
          have HM := Lib.hid (fun wx (h : Below w5.heap.size w5 wx) => ((hma.old hB5).here.old h).here)
          have HAB := Lib.hid (fun wx => compare_any (⟨#[65]⟩, ⟨#[]⟩, ⟨#[]⟩) (⟨#[66]⟩, ⟨#[]⟩, ⟨#[]⟩) wx)
          rw [cmpF_AB] at HAB
          unfold encFld at HAB
          clear hb3 hb4 hb5 hb13 hb14 hb15 hB3 hB4 hO3 hA hB hb hla hma
          have hb0 := Below.refl w5.heap.size w5
          go_wp2_with fail
          go_region_held3 (fun w' => Below w5.heap.size w5 w' ∧ w'.cell? ⟨w.heap.size, 0, none⟩ = some (.slice ao l.length cap) ∧ w'.cell? ⟨w.heap.size + 1, 0, none⟩ = some (.slice bo m.length cap2))
            (first | exact HK.out _ (by assumption) | exact HK.out _ (chain (‹Below w5.heap.size w5 _ ∧ _›).1 (by assumption)) | exact HK.out _ (Below.drew (by assumption)))
            (first
              | (go_at_call_of 7 (Value.agg #[.slice ao l.length cap]); refine (con_own ao cap l _ (HL.out _ (‹Below w5.heap.size w5 _ ∧ _›).1) HLN.out hl1).mono ?_; rintro e w10 ⟨ao10, cap10, rfl, hO10, hb10⟩)
              | (go_at_call_of 7 (Value.agg #[.slice bo m.length cap2]); refine (con_own bo cap2 m _ (HM.out _ (‹Below w5.heap.size w5 _ ∧ _›).1) HMN.out hm1).mono ?_; rintro e w11 ⟨ao11, cap11, rfl, hO11, hb11⟩)
              | (go_at_call 10; refine (same_fld ao bo cap cap2 l m _ (HL.out _ (‹Below w5.heap.size w5 _ ∧ _›).1) (HM.out _ (‹Below w5.heap.size w5 _ ∧ _›).1) hl1).mono ?_; rintro e w12 ⟨rfl, hb12⟩)
              | (go_at_call 18; refine (contact_same ao10 ao11 cap10 cap11 l m _ ?_ ?_ hl1).mono ?_; exact (hO10.below (by (first | exact Below.refl _ _ | assumption | (apply chain; rotate_left; assumption; first | assumption | (apply chain; rotate_left; assumption; first | assumption | (apply chain; rotate_left; assumption; first | assumption | (apply chain; rotate_left; assumption; assumption))))))).here; exact (hO11.below (by (first | exact Below.refl _ _ | assumption | (apply chain; rotate_left; assumption; first | assumption | (apply chain; rotate_left; assumption; first | assumption | (apply chain; rotate_left; assumption; first | assumption | (apply chain; rotate_left; assumption; assumption))))))).here; rintro e w13 ⟨rfl, hb13⟩)
              | (go_at_call 14; refine (HAB.out _).mono ?_; rintro e w14 ⟨rfl, hb14⟩))
          all_goals
            go_wp2_with fail
            go_ret
            exact ⟨rfl, hB5.trans ((‹Below w5.heap.size w5 _ ∧ _›).1.mono hB5.size)⟩

theorem ctells_own : ownKnob Try.prog.godebug = none := by kernel_rfl
theorem ctells_laid : laidOutB Try.prog = true := by kernel_rfl

set_option maxRecDepth 100000 in
theorem ctells_lifted (os : Os) (started : os.Started) (H : Type) (enc : TypeId × Value → H) :
    ReturnsInHanded {} Try.checked os 4 .any (Rows.contactTellsSpec.pre6 enc Try.prog Try.f4 Rows.contactTellsRow.domain false) (Rows.contactTellsSpec.post enc Try.prog Try.f4 false true false false) := by
  refine law_lifted (C := Try.checked) 4 ctells_own started (by kernel_rfl) Try.func4 ctells_laid rfl (by kernel_rfl) Try.underlying4 (by kernel_rfl)
    (fun ds h => by match ds, h with | [_, _, _], _ => rfl)
    (ChangeSpec.witness6 (enc := enc) (C := Try.checked) false ⟨#[], #[.agg #[.slice none 0 0], .agg #[.slice none 0 0], .string ByteArray.empty], []⟩ 8 (by kernel_rfl) (by kernel_rfl) (by kernel_rfl) (by kernel_rfl)) ?_
  intro W base args ds p hval0 hA0 hfz
  have hval : ∀ (j : Nat) t v, Try.f4.params[j]? = some t → args[j]? = some v → Value.okWide Try.prog W .any base t v := hval0
  have hA : DataW.TrodAll enc Try.prog W 0 (fun _ => true) true Try.f4.params.toList args.toList ds p := hA0
  rw [Try.params4] at hA hval
  obtain ⟨v0, vs0, d0, ds0, p0, q0, hargs, rfl, rfl, h0, r0⟩ := trodAll_cons hA
  obtain ⟨v1, vs1, d1, ds1, p1, q1, rfl, rfl, rfl, h1, r1⟩ := trodAll_cons r0
  obtain ⟨v2, vs2, d2, ds2, p2, q2, rfl, rfl, rfl, h2, r2⟩ := trodAll_cons r1
  obtain ⟨rfl, rfl, rfl⟩ := trodAll_nil r2
  obtain rfl : args = #[v0, v1, v2] := by cases args; simp_all
  obtain ⟨l0, cs0, rfl, c0⟩ := Rd.arg_struct at_24 Try.underlying24 (hval 0 24 v0 rfl rfl) h0
  obtain ⟨l1, cs1, rfl, c1⟩ := Rd.arg_struct at_24 Try.underlying24 (hval 1 24 v1 rfl rfl) h1
  obtain ⟨a2, rfl, _, _, _⟩ := open_string Try.underlying9 (hval 2 9 v2 rfl rfl) h2
  exact law_tells cs0 l0 cs1 l1 a2 W c0 c1

theorem ctells_holds : Rows.ContactTellsSaid :=
  OpenClaim.holds_of_wide 4 Try.f4 rfl rfl rfl rfl rfl rfl rfl ⟨rfl, rfl, rfl, rfl, rfl⟩ rfl rfl rfl rfl rfl (by kernel_rfl) Try.func4 (by kernel_rfl)
    (of_decide_eq_true (by kernel_rfl)) (by unfold Func.isWrapper; rw [if_neg (of_decide_eq_false (by kernel_rfl))]; exact ⟨rfl, rfl⟩)
    (fun os started H enc _ => ctells_lifted os started H enc)

end Go.Proofs.Ytmgckaokjhfkaaa
