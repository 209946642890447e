/- The reference's Trim; Net, the program's and the reference's. -/
import Derived.Test.YtkmkedmefhmnaaaLTrim
namespace Go.Proofs.Ytkmkedmefhmnaaa
open Go.RowKit Lift
set_option linter.unusedSimpArgs false
set_option linter.unusedVariables false

theorem later_snoc (c d : Chg) (m : List Chg) : later c (m ++ [d]) = (later c m || d.2.1 == c.2.1) := by unfold later; simp
theorem between {l : List Chg} {k j : Nat} {d : Chg} (hkj : k + 1 ≤ j) (hj : l[j]? = some d) : (l.take (j + 1)).drop (k + 1) = (l.take j).drop (k + 1) ++ [d] := by
  rw [take_at2 hj, List.drop_append_of_le_length]
  have := (List.getElem?_eq_some_iff.1 hj).1
  simp; omega

set_option maxHeartbeats 1000000 in
set_option maxRecDepth 100000 in
theorem trim_ref (ao : Option Addr) (cap : Nat) (l : List Chg) (w : World) (hl : SlAt rChg (· < w.heap.size) w ao l) (hlen : l.length ≤ 100000) :
    Calls Try.prog 12 #[.slice ao l.length cap] w (RowPost rChg 28 (trimL l) w) := by
  obtain ⟨i0, hi, hz0, hz1, hz2⟩ := info_parts info28
  have HI := Lib.hid hi; have HZ0 := Lib.hid hz0; have HZ1 := Lib.hid hz1; have HZ2 := Lib.hid hz2
  clear hi hz0 hz1 hz2
  go_enter Try.func12, Try.ntmps12
  go_wp2_with fail
  go_loopw [3, 4] (fun v3 v4 wx => ∃ (k : Nat) (out : List Chg), k ≤ l.length ∧ v4 = .int .i64 k ∧ out.length ≤ k ∧ Hid (out ++ trimL (l.drop k) = trimL l) ∧ Own rChg (fun _ => True) wx w.heap.size 28 v3 out ∧ Below w.heap.size w wx) (fun _ v4 _ => l.length - (intOf v4).toNat)
  case atStart => exact ⟨0, [], by omega, rfl, by simp, Lib.hid rfl, Own.nil _ _ _ _ _, Below.refl _ _⟩
  case round =>
    obtain ⟨k, out, hk, rfl, hol, heq, hO, hb⟩ := hrel
    by_cases hkl : k < l.length
    · obtain ⟨c, hcl⟩ := some_at hkl
      obtain ⟨b1, o1, rfl, hb1, x1, x2, x3⟩ := chg_get (hl.old hb) hcl
      obtain ⟨g1, g2, g3⟩ := chg_wf (hl.old hb) hcl
      have hlim : k ≤ 100000 := by omega
      have hst := trim_step hcl heq.out
      have HST := Lib.hid hst
      clear hst
      obtain ⟨wo, rfl⟩ : ∃ wo : World, wo = wr := ⟨_, rfl⟩
      go_wp2_with fail
      go_loopw [5, 6] (fun v5 v6 wx => ∃ (j : Nat) (q : Bool), k + 1 ≤ j ∧ j ≤ l.length ∧ v6 = .int .i64 j ∧ v5 = .bool q ∧ Hid (q = !later c ((l.take j).drop (k + 1))) ∧ Below wo.heap.size wo wx) (fun _ v6 _ => l.length - (intOf v6).toNat)
      case atStart => exact ⟨k + 1, true, by omega, by omega, by go_num, rfl, Lib.hid (by rw [List.drop_eq_nil_of_le (by simp; omega)]; rfl), Below.refl _ _⟩
      case round =>
        obtain ⟨j, q, hj1, hj2, rfl, rfl, hq, hb2⟩ := hrel
        by_cases hjl : j < l.length
        · obtain ⟨d, hdl⟩ := some_at hjl
          obtain ⟨b2, o2, e2, hb2', y1, y2, y3⟩ := chg_get (hl.old (hb.trans (hb2.mono hb.size))) hdl
          obtain ⟨rfl, rfl⟩ : b2 = b1 ∧ o2 = o1 := by injection e2 with e2; injection e2 with e3 e4; exact ⟨e3.symm, e4.symm⟩
          have hx2 := (hb2.cell (p := ⟨b2, o2 + k * 3 + 1, none⟩) hb1).trans x2
          have hkj : (k : Int) < (l.length : Int) := by omega
          have hj3 : (j : Int) < (l.length : Int) := by omega
          have hlim2 : j ≤ 100000 := by omega
          clear e2 y1 y3
          cases q with
          | false =>
            have HQ := Lib.hid (show false = !later c ((l.take (j + 1)).drop (k + 1)) by rw [between hj1 hdl, later_snoc]; have := hq.out; revert this; cases later c ((l.take j).drop (k + 1)) <;> simp)
            go_wp2_with fail
            (refine wp_region_quiet_lit (by kernel_rfl) (by kernel_rfl) ?_; (repeat (any_goals (first | go_big_quiet_step (fail) | quiet_step (fail) | (refine wpQuiet_step (fun K hK => ?_); go_simp; split <;> (refine hK _ ?_; clear hK K))))); all_goals (refine wpQuiet_nil ?_; intro _ hw'; obtain ⟨nq, hw''⟩ := hw'; subst hw''))
            go_wp2_with fail
            go_roundw
            case measure => simp [intOf]; omega
            case rel => exact ⟨j + 1, false, by omega, by omega, by go_num, rfl, HQ, (by first | exact Below.refl _ _ | ((repeat (refine bN _ ?_)); first | exact Below.refl _ _ | go_grown))⟩
          | true =>
            have HQ := Lib.hid (show (d.2.1 != c.2.1) = !later c ((l.take (j + 1)).drop (k + 1)) by rw [between hj1 hdl, later_snoc]; have := hq.out; revert this; cases later c ((l.take j).drop (k + 1)) <;> simp [bne])
            go_wp2_with fail
            (refine wp_region_quiet_lit (by kernel_rfl) (by kernel_rfl) ?_; (repeat (any_goals (first | go_big_quiet_step (fail) | quiet_step (fail) | (refine wpQuiet_step (fun K hK => ?_); go_simp; split <;> (refine hK _ ?_; clear hK K))))); all_goals (refine wpQuiet_nil ?_; intro _ hw'; obtain ⟨nq, hw''⟩ := hw'; subst hw''))
            go_wp2_with fail
            go_roundw
            case measure => simp [intOf]; omega
            case rel => exact ⟨j + 1, _, by omega, by omega, by go_num, rfl, HQ, (by first | exact Below.refl _ _ | ((repeat (refine bN _ ?_)); first | exact Below.refl _ _ | go_grown))⟩
        · obtain rfl : j = l.length := by omega
          have hq1 := hq.out
          rw [List.take_length] at hq1
          have hx1 := (hb2.cell (p := ⟨b1, o1 + k * 3, none⟩) hb1).trans x1
          have hx2 := (hb2.cell (p := ⟨b1, o1 + k * 3 + 1, none⟩) hb1).trans x2
          have hx3 := (hb2.cell (p := ⟨b1, o1 + k * 3 + 2, none⟩) hb1).trans x3
          have hO1 := hO.below hb2
          have hb3 := hb.trans (hb2.mono hb.size)
          clear x1 x2 x3 hO
          cases q with
          | false =>
            have HE := Lib.hid (HST.out.1 (by revert hq1; cases later c (l.drop (k + 1)) <;> simp))
            clear hq1
            go_wp2_with fail
            go_roundw
            case measure => simp [intOf]; omega
            case rel => exact ⟨k + 1, out, by omega, by go_num, by omega, HE, hO1, hb3⟩
          | true =>
            have HE := Lib.hid (HST.out.2 (by revert hq1; cases later c (l.drop (k + 1)) <;> simp))
            clear hq1
            have hsz := hb3.size
            go_wp2_with (first
              | (at_builtin; refine wpList_push rChg rfl _ _ 22 rfl w.heap.size 28 i0 _ 24 Try.underlying22 HI.out HZ0.out HZ1.out HZ2.out rfl (by decide) (fun _ => True) _ out rfl hO1 [.int .i64 c.1, .int .i64 c.2.1, .int .i64 c.2.2] c _ rfl (by simp) (chg_rel _ _ _ g1 g2 g3) (by simp [Value.oneCell']) (by unfold maxLen; omega) (by omega) (by omega) ?_; intro v2 w2 hO2 hK2 hw2))
            have hB2 := hO1.kbelow (B := w.heap.size) (by omega) hsz hK2
            go_roundw
            case measure => simp [intOf]; omega
            case rel => exact ⟨k + 1, out ++ [c], by omega, by go_num, by simp; omega, HE, hO2, hb3.trans hB2⟩
    · obtain rfl : k = l.length := by omega
      have he := heq.out
      rw [List.drop_length, trimL, List.append_nil] at he
      subst he
      obtain ⟨ao2, cap2, rfl⟩ := hO.form
      go_wp2_with fail
      go_ret
      exact ⟨ao2, cap2, rfl, hO, hb⟩

def netL (since : Int) (l : List Chg) : List Chg := trimL (l.filter fun c => decide (since < c.1))

set_option maxHeartbeats 1000000 in
set_option maxRecDepth 100000 in
theorem net_any (ao : Option Addr) (cap : Nat) (l : List Chg) (since : Int) (w : World) (hl : SlAt rChg (· < w.heap.size) w ao l) (hlen : l.length ≤ 100000) :
    Calls Try.prog 9 #[.slice ao l.length cap, .int .i64 since] w (RowPost rChg 28 (netL since l) w) := by
  obtain ⟨i0, hi, hz0, hz1, hz2⟩ := info_parts info28
  have HI := Lib.hid hi; have HZ0 := Lib.hid hz0; have HZ1 := Lib.hid hz1; have HZ2 := Lib.hid hz2
  clear hi hz0 hz1 hz2
  go_enter Try.func9, Try.ntmps9
  go_wp2_with fail
  go_loopw [5, 10] (fun v5 v6 wr => ∃ k : Nat, k ≤ l.length ∧ v6 = .int .i64 k ∧ Own rChg (fun _ => True) wr w.heap.size 28 v5 ((l.take k).filter fun c => decide (since < c.1)) ∧ Below w.heap.size w wr) (fun _ v6 _ => l.length - (intOf v6).toNat)
  case atStart => exact ⟨0, by omega, rfl, Own.nil _ _ _ _ _, Below.refl _ _⟩
  case round =>
    obtain ⟨k, hk, rfl, hO, hb⟩ := hrel
    have hsz := hb.size
    by_cases hkl : k < l.length
    · obtain ⟨c, hcl⟩ := some_at hkl
      obtain ⟨b1, o1, rfl, hb1, x1, x2, x3⟩ := chg_get (hl.old hb) hcl
      obtain ⟨g1, g2, g3⟩ := chg_wf (hl.old hb) hcl
      have hlim : k ≤ 100000 := by omega
      have HT := Lib.hid (take_at2 hcl)
      have hfl : ((l.take k).filter fun c => decide (since < c.1)).length ≤ k := Nat.le_trans (List.length_filter_le _ _) (by simp; omega)
      by_cases hc : since < c.1
      · go_wp2_with (first | (at_builtin; refine wpList_push rChg rfl _ _ 22 rfl w.heap.size 28 i0 _ 24 Try.underlying22 HI.out HZ0.out HZ1.out HZ2.out rfl (by decide) (fun _ => True) _ ((l.take k).filter fun c => decide (since < c.1)) rfl (hO.alloc _) [.int .i64 c.1, .int .i64 c.2.1, .int .i64 c.2.2] c _ rfl (by simp) (chg_rel _ _ _ g1 g2 g3) (by simp [Value.oneCell']) (by unfold maxLen; omega) (by omega) (by first | omega | (simp; omega)) ?_; intro v2 w2 hO2 hK2 hw2))
        have hB2 := hO.alloc (.cells #[.int .i64 c.1, .int .i64 c.2.1, .int .i64 c.2.2] 28)
        have hB3 := hB2.kbelow (B := w.heap.size) (by omega) (by simp; omega) hK2
        have HO := Lib.hid (show ((l.take k).filter fun c => decide (since < c.1)) ++ [c] = (l.take (k + 1)).filter fun c => decide (since < c.1) by rw [HT.out, List.filter_append]; simp [hc])
        go_roundw
        case measure => simp [intOf]; omega
        case rel => exact ⟨k + 1, by omega, by go_num, by rw [← HO.out]; exact hO2, (hb.alloc hb.size _).trans hB3⟩
      · have HO := Lib.hid (show ((l.take k).filter fun c => decide (since < c.1)) = (l.take (k + 1)).filter fun c => decide (since < c.1) by rw [HT.out, List.filter_append]; simp [hc])
        go_wp2_with fail
        go_roundw
        case measure => simp [intOf]; omega
        case rel => exact ⟨k + 1, by omega, by go_num, by rw [← HO.out]; exact hO.alloc _, hb.alloc hb.size _⟩
    · obtain rfl : k = l.length := by omega
      rw [List.take_length] at hO
      obtain ⟨ao2, cap2, rfl⟩ := hO.form
      have hfl : (l.filter fun c => decide (since < c.1)).length ≤ 100000 := Nat.le_trans (List.length_filter_le _ _) hlen
      go_wp2_with fail
      refine (trim_any _ _ _ _ hO.here hfl).mono ?_
      rintro e w3 ⟨ao3, cap3, rfl, hO3, hb3⟩
      go_wp2_with fail
      go_ret
      exact ⟨ao3, cap3, rfl, hO3.rebase hsz, chain hb hb3⟩

set_option maxHeartbeats 1000000 in
set_option maxRecDepth 100000 in
theorem net_ref (ao : Option Addr) (cap : Nat) (l : List Chg) (since : Int) (w : World) (hl : SlAt rChg (· < w.heap.size) w ao l) (hlen : l.length ≤ 100000) :
    Calls Try.prog 10 #[.slice ao l.length cap, .int .i64 since] w (RowPost rChg 28 (netL since l) w) := by
  obtain ⟨i0, hi, hz0, hz1, hz2⟩ := info_parts info28
  have HI := Lib.hid hi; have HZ0 := Lib.hid hz0; have HZ1 := Lib.hid hz1; have HZ2 := Lib.hid hz2
  clear hi hz0 hz1 hz2
  go_enter Try.func10, Try.ntmps10
  go_wp2_with fail
  go_loopw [5, 6] (fun v5 v6 wr => ∃ k : Nat, k ≤ l.length ∧ v6 = .int .i64 k ∧ Own rChg (fun _ => True) wr w.heap.size 28 v5 ((l.take k).filter fun c => decide (since < c.1)) ∧ Below w.heap.size w wr) (fun _ v6 _ => l.length - (intOf v6).toNat)
  case atStart => exact ⟨0, by omega, rfl, Own.nil _ _ _ _ _, Below.refl _ _⟩
  case round =>
    obtain ⟨k, hk, rfl, hO, hb⟩ := hrel
    have hsz := hb.size
    by_cases hkl : k < l.length
    · obtain ⟨c, hcl⟩ := some_at hkl
      obtain ⟨b1, o1, rfl, hb1, x1, x2, x3⟩ := chg_get (hl.old hb) hcl
      obtain ⟨g1, g2, g3⟩ := chg_wf (hl.old hb) hcl
      have hlim : k ≤ 100000 := by omega
      have HT := Lib.hid (take_at2 hcl)
      have hfl : ((l.take k).filter fun c => decide (since < c.1)).length ≤ k := Nat.le_trans (List.length_filter_le _ _) (by simp; omega)
      by_cases hc : since < c.1
      · go_wp2_with (first | (at_builtin; refine wpList_push rChg rfl _ _ 22 rfl w.heap.size 28 i0 _ 24 Try.underlying22 HI.out HZ0.out HZ1.out HZ2.out rfl (by decide) (fun _ => True) _ ((l.take k).filter fun c => decide (since < c.1)) rfl hO [.int .i64 c.1, .int .i64 c.2.1, .int .i64 c.2.2] c _ rfl (by simp) (chg_rel _ _ _ g1 g2 g3) (by simp [Value.oneCell']) (by unfold maxLen; omega) (by omega) (by first | omega | (simp; omega)) ?_; intro v2 w2 hO2 hK2 hw2))
        have hB2 := hO
        have hB3 := hB2.kbelow (B := w.heap.size) (by omega) (by omega) hK2
        have HO := Lib.hid (show ((l.take k).filter fun c => decide (since < c.1)) ++ [c] = (l.take (k + 1)).filter fun c => decide (since < c.1) by rw [HT.out, List.filter_append]; simp [hc])
        go_roundw
        case measure => simp [intOf]; omega
        case rel => exact ⟨k + 1, by omega, by go_num, by rw [← HO.out]; exact hO2, (hb).trans hB3⟩
      · have HO := Lib.hid (show ((l.take k).filter fun c => decide (since < c.1)) = (l.take (k + 1)).filter fun c => decide (since < c.1) by rw [HT.out, List.filter_append]; simp [hc])
        go_wp2_with fail
        go_roundw
        case measure => simp [intOf]; omega
        case rel => exact ⟨k + 1, by omega, by go_num, by rw [← HO.out]; exact hO, hb⟩
    · obtain rfl : k = l.length := by omega
      rw [List.take_length] at hO
      obtain ⟨ao2, cap2, rfl⟩ := hO.form
      have hfl : (l.filter fun c => decide (since < c.1)).length ≤ 100000 := Nat.le_trans (List.length_filter_le _ _) hlen
      go_wp2_with fail
      refine (trim_ref _ _ _ _ hO.here hfl).mono ?_
      rintro e w3 ⟨ao3, cap3, rfl, hO3, hb3⟩
      go_wp2_with fail
      go_ret
      exact ⟨ao3, cap3, rfl, hO3.rebase hsz, chain hb hb3⟩
end Go.Proofs.Ytkmkedmefhmnaaa
