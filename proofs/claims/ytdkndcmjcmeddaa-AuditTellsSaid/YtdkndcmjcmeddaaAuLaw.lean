/- AuditTells holds: of any sides what is wrong with them, their mates, and whether they have converged, are as the document has them. No condition. -/
import Derived.Test.YtdkndcmjcmeddaaAu17
import Derived.Deep.RegionHeld3
namespace Go.Proofs.Ytdkndcmjcmeddaa
open Go.ChangeShapes Go.WideShapes Go.ChangeAt Go.RowKit Lift
set_option linter.unusedSimpArgs false
set_option linter.unusedVariables false
theorem rEnt_at : rEnt.at Try.prog 37 := Rd.at_struct Try.underlying37 (by kernel_rfl) (Rd.atF_cons (Rd.at_int Try.underlying3 (by kernel_rfl)) rfl (Rd.atF_cons (Rd.at_int Try.underlying3 (by kernel_rfl)) rfl (Rd.atF_cons (Rd.at_int Try.underlying3 (by kernel_rfl)) rfl (Rd.atF_one (Rd.at_str Try.underlying9 (by kernel_rfl)) rfl))))
theorem rPai_at : rPai.at Try.prog 48 := Rd.at_struct Try.underlying48 (by kernel_rfl) (Rd.atF_cons (Rd.at_int Try.underlying3 (by kernel_rfl)) rfl (Rd.atF_cons (Rd.at_int Try.underlying3 (by kernel_rfl)) rfl (Rd.atF_one (Rd.at_int Try.underlying3 (by kernel_rfl)) rfl)))
theorem rRec_at : rRec.at Try.prog 39 := Rd.at_struct Try.underlying39 (by kernel_rfl) (Rd.atF_cons (Rd.at_int Try.underlying3 (by kernel_rfl)) rfl (Rd.atF_cons (Rd.at_bool Try.underlying4 (by kernel_rfl)) rfl (Rd.atF_cons (Rd.at_int Try.underlying3 (by kernel_rfl)) rfl (Rd.atF_cons (Rd.at_str Try.underlying9 (by kernel_rfl)) rfl (Rd.atF_cons (Rd.at_int Try.underlying3 (by kernel_rfl)) rfl (Rd.atF_cons (Rd.at_int Try.underlying3 (by kernel_rfl)) rfl (Rd.atF_cons (Rd.at_str Try.underlying9 (by kernel_rfl)) rfl (Rd.atF_cons (Rd.at_int Try.underlying3 (by kernel_rfl)) rfl (Rd.atF_one (Rd.at_str Try.underlying9 (by kernel_rfl)) rfl)))))))))
theorem rEnts_at : rEnt.slice.at Try.prog 22 := Rd.at_slice Try.underlying22 (by kernel_rfl) rEnt_at (by decide)
theorem rPais_at : rPai.slice.at Try.prog 23 := Rd.at_slice Try.underlying23 (by kernel_rfl) rPai_at (by decide)
theorem rRecs_at : rRec.slice.at Try.prog 24 := Rd.at_slice Try.underlying24 (by kernel_rfl) rRec_at (by decide)
abbrev rSides : Rd (List Ent × List Ent × List Pai × List Rec) := rEnt.slice.pair (rEnt.slice.pair (rPai.slice.pair rRec.slice))
theorem at_26 : rSides.at Try.prog 26 :=
  Rd.at_struct Try.underlying26 (by kernel_rfl) (Rd.atF_cons rEnts_at rfl (Rd.atF_cons rEnts_at rfl (Rd.atF_cons rPais_at rfl (Rd.atF_one rRecs_at rfl))))
/-- Sides that came in. -/
theorem sides_arg {w : World} {cs : Array Value} {p : List Ent × List Ent × List Pai × List Rec} (h : rSides.rel (· < w.heap.size) w cs.toList p) :
    ∃ s : Sd, Value.agg cs = sdV s ∧ SlAt rEnt (· < w.heap.size) w s.ea s.e ∧ SlAt rEnt (· < w.heap.size) w s.ga s.g ∧ SlAt rPai (· < w.heap.size) w s.pa s.p ∧ SlAt rRec (· < w.heap.size) w s.ra s.r ∧ s.e.length ≤ maxLen ∧ s.g.length ≤ maxLen ∧ s.p.length ≤ maxLen ∧ s.r.length ≤ maxLen := by
  obtain ⟨c1, d1, h1, ⟨ao1, cap1, rfl, a2, a3, a4, a5⟩, c2, d2, rfl, ⟨ao2, cap2, rfl, b2, b3, b4, b5⟩, c3, d3, rfl, ⟨ao3, cap3, rfl, e2, e3, e4, e5⟩, ⟨ao4, cap4, rfl, f2, f3, f4, f5⟩⟩ := h
  refine ⟨⟨p.1, p.2.1, p.2.2.1, p.2.2.2, ao1, ao2, ao3, ao4, cap1, cap2, cap3, cap4⟩, ?_, a5, b5, e5, f5, by simp only; omega, by simp only; omega, by simp only; omega, by simp only; omega⟩
  have : cs = #[.slice ao1 p.1.length cap1, .slice ao2 p.2.1.length cap2, .slice ao3 p.2.2.1.length cap3, .slice ao4 p.2.2.2.length cap4] := Array.toList_inj.1 (by rw [h1]; rfl)
  rw [this]; rfl
set_option maxHeartbeats 8000000 in
set_option maxRecDepth 100000 in
theorem law_tells (cs : Array Value) (p : List Ent × List Ent × List Pai × List Rec) (last : Int) (hlast : Wf last) (anchor : Int) (hanchor : Wf anchor) (w : World) (h : rSides.rel (· < w.heap.size) w cs.toList p) :
    Calls Try.prog 3 #[.agg cs, .int .i64 last, .int .i64 anchor] w (TruePost w) := by
  obtain ⟨s, hv, h1, h2, h3, h4, n1, n2, n3, n4⟩ := sides_arg h
  rw [hv]
  clear hv h
  obtain ⟨W0, hW0⟩ : ∃ W0, w.alloc (.cells #[.slice s.ea s.e.length s.ec, .slice s.ga s.g.length s.gc, .slice s.pa s.p.length s.pc, .slice s.ra s.r.length s.rc] 26) = W0 := ⟨_, rfl⟩
  have hb0 : Below w.heap.size w W0 := by rw [← hW0]; exact (Below.refl _ _).alloc (Nat.le_refl _) _
  have hsz : W0.heap.size = w.heap.size + 1 := by rw [← hW0]; simp
  have hbx : SdBox W0 w.heap.size s := by rw [← hW0]; exact ⟨by simp [go_sem], by simp [go_sem], by simp [go_sem], by simp [go_sem]⟩
  have HT0 := Lib.hid hb0
  by_cases hlen : 100 < s.e.length ∨ 100 < s.g.length ∨ 100 < s.p.length ∨ 150 < s.r.length
  · have HG := Lib.hid (great_yes s W0 hlen n1 n2 n3 n4)
    obtain ⟨x0, x1, x2, x3⟩ := hbx
    clear h1 h2 h3 h4 n1 n2 n3 n4 hlen hsz hb0
    unfold sdV at *
    go_enter Try.func3, Try.ntmps3
    go_wp2_with fail
    with_reducible refine HG.out.mono ?_
    rintro e w1 ⟨rfl, hb1⟩
    go_wp2_with fail
    go_ret
    exact ⟨rfl, chain HT0.out hb1⟩
  · have hs0 : SdOk W0.heap.size W0 s := ⟨(h1.old hb0).mono (fun b hb _ => by omega), (h2.old hb0).mono (fun b hb _ => by omega), (h3.old hb0).mono (fun b hb _ => by omega), (h4.old hb0).mono (fun b hb _ => by omega), by omega, by omega, by omega, by omega⟩
    have hR0 : RBox w.heap.size s W0 := ⟨by omega, hs0, hbx⟩
    have HR0 := Lib.hid hR0
    have HG := Lib.hid (great_no s W0 hs0 (by omega) (by omega) (by omega) (by omega))
    obtain ⟨x0, x1, x2, x3⟩ := hbx
    have hlt := hR0.lt
    clear h1 h2 h3 h4 n1 n2 n3 n4 hlen hsz hb0 hs0 hR0
    unfold sdV at *
    go_enter Try.func3, Try.ntmps3
    go_wp2_with fail
    clear hW0 x0 x1 x2 x3 hlt
    with_reducible refine HG.out.mono ?_
    rintro e w1 ⟨b, rfl, hb1⟩
    have hR1 := HR0.out.next hb1
    have HT1 := Lib.hid (chain HT0.out hb1)
    have HR1 := Lib.hid hR1
    obtain ⟨x0, x1, x2, x3⟩ := hR1.bx
    have hlt := hR1.lt
    clear hR1 hb1 HG
    cases b with
    | true =>
      go_wp2_with fail
      go_ret
      exact ⟨rfl, HT1.out⟩
    | false =>
      have HM := Lib.hid (mates_any s w1 HR1.out.ok)
      unfold sdV at HM
      go_wp2_with fail
      with_reducible refine HM.out.mono ?_
      rintro e w2 ⟨v, rfl, hO2, hb2⟩
      obtain ⟨la, lc, e⟩ := hO2.form
      subst e
      have hR2 := HR1.out.next hb2
      have HT2 := Lib.hid (chain HT1.out hb2)
      have HR2 := Lib.hid hR2
      obtain ⟨x0, x1, x2, x3⟩ := hR2.bx
      have hlt := hR2.lt
      have HN := Lib.hid (mates_ref s w2 HR2.out.ok)
      rw [mates_eq, ok_eq] at HN
      unfold sdV at HN
      clear hR2 hb2 HM HR1 HT1
      go_wp2_with fail
      with_reducible refine HN.out.mono ?_
      rintro e w4 ⟨v, rfl, hO4, hb4⟩
      obtain ⟨lb, ld, e⟩ := hO4.form
      subst e
      have hO2' := hO2.below hb4
      have hR4 := HR2.out.next hb4
      have HT4 := Lib.hid (chain HT2.out hb4)
      obtain ⟨x0, x1, x2, x3⟩ := hR4.bx
      have hlt := hR4.lt
      have hml : (matesL s).length ≤ 1000000 := by
        unfold matesL
        split
        · have := hR4.ok.el; rw [List.length_map]; omega
        · simp
      have HS1 := Lib.hid (show ∀ w', Below w4.heap.size w4 w' → Calls Try.prog 7 #[sdV s] w' (BelowPost (.int .i64 (soundE s)) w') from fun w' h => sound_any s w' (hR4.next h).ok)
      have HS2 := Lib.hid (show ∀ w', Below w4.heap.size w4 w' → Calls Try.prog 8 #[sdV s] w' (BelowPost (.int .i64 (soundE s)) w') from fun w' h => by have := sound_ref s w' (hR4.next h).ok; rwa [refE_eq] at this)
      have HS3 := Lib.hid (show ∀ w', Below w4.heap.size w4 w' → Calls Try.prog 9 #[.slice la (matesL s).length lc, .slice lb (matesL s).length ld] w' (BelowPost (.bool true) w') from fun w' h => by
        have := same_mt la lb lc ld (matesL s) (matesL s) w' (hO2'.below h).here (hO4.below h).here hml; rwa [decide_eq_true (rfl : matesL s = matesL s)] at this)
      have HS4 := Lib.hid (show ∀ w', Below w4.heap.size w4 w' → Calls Try.prog 10 #[sdV s, .int .i64 last, .int .i64 anchor] w' (BelowPost (.bool (convB s last anchor)) w') from fun w' h => conv_any s last anchor w' (hR4.next h).ok)
      have HS5 := Lib.hid (show ∀ w', Below w4.heap.size w4 w' → Calls Try.prog 11 #[sdV s, .int .i64 last, .int .i64 anchor] w' (BelowPost (.bool (convB s last anchor)) w') from fun w' h => by have := conv_ref s last anchor w' (hR4.next h).ok; rwa [conv_eq] at this)
      have HK := Lib.hid (show ∀ w', Below w4.heap.size w4 w' → Below w4.heap.size w4 w' ∧ w'.cell? ⟨w.heap.size, 0, none⟩ = some (.slice s.ea s.e.length s.ec) ∧ w'.cell? ⟨w.heap.size, 1, none⟩ = some (.slice s.ga s.g.length s.gc) ∧ w'.cell? ⟨w.heap.size, 2, none⟩ = some (.slice s.pa s.p.length s.pc) ∧ w'.cell? ⟨w.heap.size, 3, none⟩ = some (.slice s.ra s.r.length s.rc) from fun w' h => ⟨h, (hR4.next h).bx⟩)
      generalize soundE s = E at *
      generalize convB s last anchor = C at *
      generalize okM s = B at *
      generalize (matesL s).length = n at *
      unfold sdV at HS1 HS2 HS4 HS5
      have hb0 := Below.refl w4.heap.size w4
      clear hO2 hO2' hO4 hb4 hR4 HN HR2 HT2
      go_wp2_with fail
      go_region_held3 (fun w' => Below w4.heap.size w4 w' ∧ w'.cell? ⟨w.heap.size, 0, none⟩ = some (.slice s.ea s.e.length s.ec) ∧ w'.cell? ⟨w.heap.size, 1, none⟩ = some (.slice s.ga s.g.length s.gc) ∧ w'.cell? ⟨w.heap.size, 2, none⟩ = some (.slice s.pa s.p.length s.pc) ∧ w'.cell? ⟨w.heap.size, 3, none⟩ = some (.slice s.ra s.r.length s.rc))
        (first | exact HK.out _ (by assumption) | exact HK.out _ (chain (‹Below w4.heap.size w4 _ ∧ _›).1 (by assumption)) | exact HK.out _ (Below.drew (by assumption)))
        (first
          | (go_at_call 7; refine (HS1.out _ (‹Below w4.heap.size w4 _ ∧ _›).1).mono ?_; rintro e w5 ⟨rfl, hb5⟩)
          | (go_at_call 8; refine (HS2.out _ (‹Below w4.heap.size w4 _ ∧ _›).1).mono ?_; rintro e w6 ⟨rfl, hb6⟩)
          | (go_at_call 9; refine (HS3.out _ (‹Below w4.heap.size w4 _ ∧ _›).1).mono ?_; rintro e w7 ⟨rfl, hb7⟩)
          | (go_at_call 10; refine (HS4.out _ (‹Below w4.heap.size w4 _ ∧ _›).1).mono ?_; rintro e w8 ⟨rfl, hb8⟩)
          | (go_at_call 11; refine (HS5.out _ (‹Below w4.heap.size w4 _ ∧ _›).1).mono ?_; rintro e w9 ⟨rfl, hb9⟩)
          | (go_at_call 12; refine (works_any _).mono ?_; rintro e w10 ⟨rfl, hb10⟩))
      all_goals
        go_wp2_with fail
        go_ret
        exact ⟨rfl, chain HT4.out (‹Below w4.heap.size w4 _ ∧ _›).1⟩
theorem tells_own : ownKnob Try.prog.godebug = none := by kernel_rfl
theorem tells_laid : laidOutB Try.prog = true := by kernel_rfl

set_option maxRecDepth 100000 in
theorem tells_lifted (os : Os) (started : os.Started) (H : Type) (enc : TypeId × Value → H) :
    ReturnsInHanded {} Try.checked os 3 .any (Rows.auditTellsSpec.pre6 enc Try.prog Try.f3 Rows.auditTellsRow.domain false) (Rows.auditTellsSpec.post enc Try.prog Try.f3 false true false false) := by
  refine law_lifted (C := Try.checked) 4 tells_own started (by kernel_rfl) Try.func3 tells_laid rfl (by kernel_rfl) Try.underlying4 (by kernel_rfl)
    (fun ds h => by match ds, h with | [_, _, _], _ => rfl)
    (ChangeSpec.witness6 (enc := enc) (C := Try.checked) false ⟨#[], #[.agg #[.slice none 0 0, .slice none 0 0, .slice none 0 0, .slice none 0 0], .int .i64 0, .int .i64 0], []⟩ 8 (by kernel_rfl) (by kernel_rfl) (by kernel_rfl) (by kernel_rfl)) ?_
  intro W base args ds p hval0 hA0 hfz hz0
  have hz : ∀ (j : Nat) t d, Try.f3.params.toList[j]? = some t → ds[j]? = some d → ∀ n ∈ d.weights Try.prog t, n ≤ reachBytes := hz0
  have hval : ∀ (j : Nat) t v, Try.f3.params[j]? = some t → args[j]? = some v → Value.okWide Try.prog W .any base t v := hval0
  have hA : DataW.TrodAll enc Try.prog W 0 (fun _ => true) true Try.f3.params.toList args.toList ds p := hA0
  rw [Try.params3] at hA hval
  obtain ⟨v0, vs0, d0, ds0, p0, q0, hargs, rfl, rfl, h0, r0⟩ := trodAll_cons hA
  obtain ⟨v1, vs1, d1, ds1, p1, q1, rfl, rfl, rfl, h1, r1⟩ := trodAll_cons r0
  obtain ⟨v2, vs2, d2, ds2, p2, q2, rfl, rfl, rfl, h2, r2⟩ := trodAll_cons r1
  obtain ⟨rfl, rfl, rfl⟩ := trodAll_nil r2
  obtain rfl : args = #[v0, v1, v2] := by cases args; simp_all
  obtain ⟨l0, cs0, rfl, c0⟩ := Rd.arg_struct at_26 Try.underlying26 (hval 0 26 v0 rfl rfl) h0 (hz 0 26 d0 rfl rfl)
  obtain ⟨a1, rfl, _, _, w1⟩ := open_int Try.underlying3 (hval 1 3 v1 rfl rfl) h1
  obtain ⟨a2, rfl, _, _, w2⟩ := open_int Try.underlying3 (hval 2 3 v2 rfl rfl) h2
  exact law_tells cs0 l0 a1 w1 a2 w2 W c0

theorem tells_holds : Rows.AuditTellsSaid :=
  OpenClaim.holds_of_wide 3 Try.f3 rfl rfl rfl rfl rfl rfl rfl ⟨rfl, rfl, rfl, rfl, rfl⟩ rfl rfl rfl rfl rfl (by kernel_rfl) Try.func3 (by kernel_rfl)
    (of_decide_eq_true (by kernel_rfl)) (by unfold Func.isWrapper; rw [if_neg (of_decide_eq_false (by kernel_rfl))]; exact ⟨rfl, rfl⟩)
    (fun os started H enc _ => tells_lifted os started H enc)

end Go.Proofs.Ytdkndcmjcmeddaa
