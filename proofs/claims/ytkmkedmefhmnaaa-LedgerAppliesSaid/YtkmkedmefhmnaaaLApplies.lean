/- LedgerApplies holds: which items are there behind any changes is as the reference has it. No condition. -/
import Derived.Test.YtkmkedmefhmnaaaLWorks
namespace Go.Proofs.Ytkmkedmefhmnaaa
open Go.ChangeShapes Go.WideShapes Go.ChangeAt Go.RowKit Lift
set_option linter.unusedSimpArgs false
set_option linter.unusedVariables false

theorem rChg_at : rChg.at Try.prog 28 :=
  Rd.at_struct Try.underlying28 (by kernel_rfl) (Rd.atF_cons (Rd.at_int Try.underlying3 (by kernel_rfl)) rfl (Rd.atF_cons (Rd.at_int Try.underlying3 (by kernel_rfl)) rfl (Rd.atF_one (Rd.at_int Try.underlying3 (by kernel_rfl)) rfl)))
theorem at_22 : rChg.slice.at Try.prog 22 := Rd.at_slice Try.underlying22 (by kernel_rfl) rChg_at (by decide)
theorem at_33 : (Rd.int .i64).slice.at Try.prog 33 := Rd.at_slice Try.underlying33 (by kernel_rfl) (Rd.at_int Try.underlying3 (by kernel_rfl)) (by decide)

set_option maxHeartbeats 1000000 in
set_option maxRecDepth 100000 in
theorem law_applies (bo : Option Addr) (bcap : Nat) (ids : List Int) (ao : Option Addr) (cap : Nat) (l : List Chg) (w : World) (h1 : SlArg (Rd.int .i64) w bo bcap ids) (h2 : SlArg rChg w ao cap l) :
    Calls Try.prog 5 #[.slice bo ids.length bcap, .slice ao l.length cap] w (TruePost w) := by
  have hi := h1.at'
  have hicap := h1.nil
  have hill := Nat.le_trans h1.le h1.max
  have hl := h2.at'
  have hll := Nat.le_trans h2.le h2.max
  unfold maxLen at hill hll
  clear h1 h2
  by_cases hs : l.length ≤ 300
  · have hd : decide ((300:Int) < (l.length : Int)) = false := by simp; omega
    by_cases hs2 : ids.length ≤ 300
    · have hd2 : decide ((300:Int) < (ids.length : Int)) = false := by simp; omega
      obtain ⟨i0, hi0, hz0, hz1, hz2⟩ := info_parts info3
      have HI := Lib.hid hi0; have HZ0 := Lib.hid hz0; have HZ1 := Lib.hid hz1; have HZ2 := Lib.hid hz2
      clear hi0 hz0 hz1 hz2
      have hal : (applyL ids l).length ≤ 600 := Nat.le_trans (apply_len _ _) (by omega)
      go_enter Try.func5, Try.ntmps5
      go_wp2_with (first
        | (at_builtin; refine wpList_pushAll (Rd.int .i64) rfl _ _ 33 rfl w.heap.size 3 i0 _ 8 Try.underlying33 HI.out HZ0.out HZ1.out HZ2.out rfl (by decide) (fun _ => True) _ [] rfl (own_made _ _ _ _ _ (by omega)) bo bcap ids rfl hicap ((hi.old ((Below.refl _ _).alloc (Nat.le_refl _) _)).apart (fun k hk => by cases hk; exact Nat.le_refl _)) int_one (by unfold maxLen; simp; omega) (by simp; omega) (by simp) ?_; intro v2 w2 hO2 hK2 hw2))
      have hB2 : Below w.heap.size w w2 := (Below.refl _ _).alloc (Nat.le_refl _) _ |>.trans (hK2.below (by simp) (fun k hk => by cases hk; exact Nat.le_refl _))
      clear hK2 hw2
      rw [List.nil_append] at hO2
      obtain ⟨ao2, cap2, rfl⟩ := hO2.form
      go_wp2_with fail
      refine (apply_any _ _ _ _ _ _ _ hO2.here (hl.old hB2).here (by omega) (by omega)).mono ?_
      rintro e w3 ⟨ao3, cap3, rfl, hO3, hb3⟩
      have hB3 := chain hB2 hb3
      go_wp2_with fail
      refine (apply_ref _ _ _ _ _ _ _ (hi.old hB3).here (hl.old hB3).here (by omega) (by omega)).mono ?_
      rintro e w4 ⟨ao4, cap4, rfl, hO4, _, _, hb4⟩
      have hB4 := chain hB3 hb4
      have hO3 := hO3.below hb4
      go_wp2_with fail
      refine (sameInts_ref _ _ _ _ _ _ _ hO3.here hO4 (by omega)).mono ?_
      rintro e w5 ⟨rfl, hb5⟩
      rw [decide_eq_true (rfl : applyL ids l = applyL ids l)]
      have hB5 := chain hB4 hb5
      go_wp2_with fail
      refine (works_true _).mono ?_
      rintro e w6 ⟨rfl, hb6⟩
      go_wp2_with fail
      go_ret
      exact ⟨rfl, chain hB5 hb6⟩
    · have hd2 : decide ((300:Int) < (ids.length : Int)) = true := by simp; omega
      go_enter Try.func5, Try.ntmps5
      go_wp2_with fail
      go_ret
      exact ⟨rfl, Below.refl _ _⟩
  · have hd : decide ((300:Int) < (l.length : Int)) = true := by simp; omega
    go_enter Try.func5, Try.ntmps5
    go_wp2_with fail
    go_ret
    exact ⟨rfl, Below.refl _ _⟩

theorem applies_own : ownKnob Try.prog.godebug = none := by kernel_rfl
theorem applies_laid : laidOutB Try.prog = true := by kernel_rfl

set_option maxRecDepth 100000 in
theorem applies_lifted (os : Os) (started : os.Started) (H : Type) (enc : TypeId × Value → H) :
    ReturnsInHanded {} Try.checked os 5 .any (Rows.ledgerAppliesSpec.pre6 enc Try.prog Try.f5 Rows.ledgerAppliesRow.domain false) (Rows.ledgerAppliesSpec.post enc Try.prog Try.f5 false true false false) := by
  refine law_lifted (C := Try.checked) 4 applies_own started (by kernel_rfl) Try.func5 applies_laid rfl (by kernel_rfl) Try.underlying4 (by kernel_rfl)
    (fun ds h => by match ds, h with | [_, _], _ => rfl)
    (ChangeSpec.witness6 (enc := enc) (C := Try.checked) false ⟨#[], #[.slice none 0 0, .slice none 0 0], []⟩ 8 (by kernel_rfl) (by kernel_rfl) (by kernel_rfl) (by kernel_rfl)) ?_
  intro W base args ds p hval0 hA0 hfz hz0
  have hz : ∀ (j : Nat) t d, Try.f5.params.toList[j]? = some t → ds[j]? = some d → ∀ n ∈ d.weights Try.prog t, n ≤ reachBytes := hz0
  have hval : ∀ (j : Nat) t v, Try.f5.params[j]? = some t → args[j]? = some v → Value.okWide Try.prog W .any base t v := hval0
  have hA : DataW.TrodAll enc Try.prog W 0 (fun _ => true) true Try.f5.params.toList args.toList ds p := hA0
  rw [Try.params5] at hA hval
  obtain ⟨v0, vs0, d0, ds0, p0, q0, hargs, rfl, rfl, h0, r0⟩ := trodAll_cons hA
  obtain ⟨v1, vs1, d1, ds1, p1, q1, rfl, rfl, rfl, h1, r1⟩ := trodAll_cons r0
  obtain ⟨rfl, rfl, rfl⟩ := trodAll_nil r1
  obtain rfl : args = #[v0, v1] := by cases args; simp_all
  obtain ⟨l0, ao0, cap0, rfl, c0⟩ := Rd.arg_slice at_33 Try.underlying33 (hval 0 33 v0 rfl rfl) h0 (hz 0 33 d0 rfl rfl)
  obtain ⟨l1, ao1, cap1, rfl, c1⟩ := Rd.arg_slice at_22 Try.underlying22 (hval 1 22 v1 rfl rfl) h1 (hz 1 22 d1 rfl rfl)
  exact law_applies ao0 cap0 l0 ao1 cap1 l1 W c0 c1

theorem applies_holds : Rows.LedgerAppliesSaid :=
  OpenClaim.holds_of_wide 5 Try.f5 rfl rfl rfl rfl rfl rfl rfl ⟨rfl, rfl, rfl, rfl, rfl⟩ rfl rfl rfl rfl rfl (by kernel_rfl) Try.func5 (by kernel_rfl)
    (of_decide_eq_true (by kernel_rfl)) (by unfold Func.isWrapper; rw [if_neg (of_decide_eq_false (by kernel_rfl))]; exact ⟨rfl, rfl⟩)
    (fun os started H enc _ => applies_lifted os started H enc)

end Go.Proofs.Ytkmkedmefhmnaaa
