/- LedgerNets holds: of every list of changes what is net since any version, and what is trimmed, are as the reference has them. No condition. -/
import Derived.Test.YtkmkedmefhmnaaaLNet
namespace Go.Proofs.Ytkmkedmefhmnaaa
open Go.ChangeShapes Go.WideShapes Go.ChangeAt Go.RowKit Lift
set_option linter.unusedSimpArgs false
set_option linter.unusedVariables false

theorem rChg_at : rChg.at Try.prog 28 :=
  Rd.at_struct Try.underlying28 (by kernel_rfl) (Rd.atF_cons (Rd.at_int Try.underlying3 (by kernel_rfl)) rfl (Rd.atF_cons (Rd.at_int Try.underlying3 (by kernel_rfl)) rfl (Rd.atF_one (Rd.at_int Try.underlying3 (by kernel_rfl)) rfl)))
theorem at_22 : rChg.slice.at Try.prog 22 := Rd.at_slice Try.underlying22 (by kernel_rfl) rChg_at (by decide)

theorem chg_one : ∀ S w cs (c : Chg), rChg.rel S w cs c → ∀ u ∈ cs, u.oneCell' = true := by
  rintro S w cs c ⟨c1, c2, rfl, ⟨rfl, _⟩, d1, d2, rfl, ⟨rfl, _⟩, ⟨rfl, _⟩⟩ u hu; simp at hu; rcases hu with rfl | rfl | rfl <;> rfl

set_option maxHeartbeats 1000000 in
set_option maxRecDepth 100000 in
theorem law_nets (ao : Option Addr) (cap : Nat) (l : List Chg) (since : Int) (hwf : Wf since) (w : World) (h : SlArg rChg w ao cap l) :
    Calls Try.prog 3 #[.slice ao l.length cap, .int .i64 since] w (TruePost w) := by
  have hl := h.at'
  have hcap := h.nil
  have hll := Nat.le_trans h.le h.max
  unfold maxLen at hll
  clear h
  by_cases hs : l.length ≤ 300
  · have hd : decide ((300:Int) < (l.length : Int)) = false := by simp; omega
    obtain ⟨i0, hi, hz0, hz1, hz2⟩ := info_parts info28
    have HI := Lib.hid hi; have HZ0 := Lib.hid hz0; have HZ1 := Lib.hid hz1; have HZ2 := Lib.hid hz2
    clear hi hz0 hz1 hz2
    have hle : ∀ m : List Chg, (trimL m).length ≤ m.length := trimL_len
    have h1 : (trimL l).length ≤ 300 := Nat.le_trans (hle l) hs
    have h2 : (netL since l).length ≤ 300 := Nat.le_trans (hle _) (Nat.le_trans (List.length_filter_le _ _) hs)
    clear hle
    go_enter Try.func3, Try.ntmps3
    go_wp2_with (first
      | (at_builtin; refine wpList_pushAll rChg rfl _ _ 22 rfl w.heap.size 28 i0 _ 24 Try.underlying22 HI.out HZ0.out HZ1.out HZ2.out rfl (by decide) (fun _ => True) _ [] rfl (own_made _ _ _ _ _ (by omega)) ao cap l rfl hcap ((hl.old ((Below.refl _ _).alloc (Nat.le_refl _) _)).apart (fun k hk => by cases hk; exact Nat.le_refl _)) chg_one (by unfold maxLen; simp; omega) (by simp; omega) (by simp) ?_; intro v2 w2 hO2 hK2 hw2))
    have hB2 : Below w.heap.size w w2 := (Below.refl _ _).alloc (Nat.le_refl _) _ |>.trans (hK2.below (by simp) (fun k hk => by cases hk; exact Nat.le_refl _))
    clear hK2 hw2
    rw [List.nil_append] at hO2
    obtain ⟨ao2, cap2, rfl⟩ := hO2.form
    refine (net_any _ _ _ _ _ hO2.here (by omega)).mono ?_
    rintro e w3 ⟨ao3, cap3, rfl, hO3, hb3⟩
    have hB3 := chain hB2 hb3
    have hO2 := hO2.below hb3
    go_wp2_with fail
    refine (net_ref _ _ _ _ _ (hl.old hB3).here (by omega)).mono ?_
    rintro e w4 ⟨ao4, cap4, rfl, hO4, hb4⟩
    have hB4 := chain hB3 hb4
    have hO2 := hO2.below hb4
    have hO3 := hO3.below hb4
    go_wp2_with fail
    refine (same_ref _ _ _ _ _ _ _ hO3.here hO4.here (by omega)).mono ?_
    rintro e w5 ⟨rfl, hb5⟩
    rw [decide_eq_true (rfl : netL since l = netL since l)]
    have hB5 := chain hB4 hb5
    have hO2 := hO2.below hb5
    clear hO3 hO4
    go_wp2_with fail
    refine (trim_any _ _ _ _ hO2.here (by omega)).mono ?_
    rintro e w6 ⟨ao6, cap6, rfl, hO6, hb6⟩
    have hB6 := chain hB5 hb6
    have hO2 := hO2.below hb6
    go_wp2_with fail
    refine (trim_ref _ _ _ _ (hl.old hB6).here (by omega)).mono ?_
    rintro e w7 ⟨ao7, cap7, rfl, hO7, hb7⟩
    have hB7 := chain hB6 hb7
    have hO2 := hO2.below hb7
    have hO6 := hO6.below hb7
    go_wp2_with fail
    refine (same_ref _ _ _ _ _ _ _ hO6.here hO7.here (by omega)).mono ?_
    rintro e w8 ⟨rfl, hb8⟩
    rw [decide_eq_true (rfl : trimL l = trimL l)]
    have hB8 := chain hB7 hb8
    have hO2 := hO2.below hb8
    clear hO6 hO7
    go_wp2_with fail
    refine (same_ref _ _ _ _ _ _ _ hO2.here (hl.old hB8).here (by omega)).mono ?_
    rintro e w9 ⟨rfl, hb9⟩
    rw [decide_eq_true (rfl : l = l)]
    go_wp2_with fail
    go_ret
    exact ⟨rfl, chain hB8 hb9⟩
  · have hd : decide ((300:Int) < (l.length : Int)) = true := by simp; omega
    go_enter Try.func3, Try.ntmps3
    go_wp2_with fail
    go_ret
    exact ⟨rfl, Below.refl _ _⟩

theorem nets_own : ownKnob Try.prog.godebug = none := by kernel_rfl
theorem nets_laid : laidOutB Try.prog = true := by kernel_rfl

set_option maxRecDepth 100000 in
theorem nets_lifted (os : Os) (started : os.Started) (H : Type) (enc : TypeId × Value → H) :
    ReturnsInHanded {} Try.checked os 3 .any (Rows.ledgerNetsSpec.pre6 enc Try.prog Try.f3 Rows.ledgerNetsRow.domain false) (Rows.ledgerNetsSpec.post enc Try.prog Try.f3 false true false false) := by
  refine law_lifted (C := Try.checked) 4 nets_own started (by kernel_rfl) Try.func3 nets_laid rfl (by kernel_rfl) Try.underlying4 (by kernel_rfl)
    (fun ds h => by match ds, h with | [_, _], _ => rfl)
    (ChangeSpec.witness6 (enc := enc) (C := Try.checked) false ⟨#[], #[.slice none 0 0, .int .i64 0], []⟩ 8 (by kernel_rfl) (by kernel_rfl) (by kernel_rfl) (by kernel_rfl)) ?_
  intro W base args ds p hval0 hA0 hfz
  have hval : ∀ (j : Nat) t v, Try.f3.params[j]? = some t → args[j]? = some v → Value.okWide Try.prog W .any base t v := hval0
  have hA : DataW.TrodAll enc Try.prog W 0 (fun _ => true) true Try.f3.params.toList args.toList ds p := hA0
  rw [Try.params3] at hA hval
  obtain ⟨v0, vs0, d0, ds0, p0, q0, hargs, rfl, rfl, h0, r0⟩ := trodAll_cons hA
  obtain ⟨v1, vs1, d1, ds1, p1, q1, rfl, rfl, rfl, h1, r1⟩ := trodAll_cons r0
  obtain ⟨rfl, rfl, rfl⟩ := trodAll_nil r1
  obtain rfl : args = #[v0, v1] := by cases args; simp_all
  obtain ⟨l0, ao0, cap0, rfl, c0⟩ := Rd.arg_slice at_22 Try.underlying22 (hval 0 22 v0 rfl rfl) h0
  obtain ⟨a1, rfl, _, _, w1⟩ := open_int Try.underlying3 (hval 1 3 v1 rfl rfl) h1
  exact law_nets ao0 cap0 l0 a1 w1 W c0

theorem nets_holds : Rows.LedgerNetsSaid :=
  OpenClaim.holds_of_wide 3 Try.f3 rfl rfl rfl rfl rfl rfl rfl ⟨rfl, rfl, rfl, rfl, rfl⟩ rfl rfl rfl rfl rfl (by kernel_rfl) Try.func3 (by kernel_rfl)
    (of_decide_eq_true (by kernel_rfl)) (by unfold Func.isWrapper; rw [if_neg (of_decide_eq_false (by kernel_rfl))]; exact ⟨rfl, rfl⟩)
    (fun os started H enc _ => nets_lifted os started H enc)

end Go.Proofs.Ytkmkedmefhmnaaa
