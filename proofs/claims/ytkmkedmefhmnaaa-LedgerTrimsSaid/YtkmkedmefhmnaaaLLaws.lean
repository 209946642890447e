/- LedgerNet and LedgerTrims, walked. -/
import Derived.Test.YtkmkedmefhmnaaaLWorks
import Derived.Test.YtkmkedmefhmnaaaLPure2
namespace Go.Proofs.Ytkmkedmefhmnaaa
open Go.ChangeShapes Go.WideShapes Go.ChangeAt Go.RowKit Lift
set_option linter.unusedSimpArgs false
set_option linter.unusedVariables false

theorem early_snoc (since : Int) (l : List Chg) (c : Chg) : earlyL since (l ++ [c]) = earlyL since l ++ if c.1 ≤ since then [c] else [] := by
  unfold earlyL; rw [List.filter_append]; by_cases h : c.1 ≤ since <;> simp [h]

set_option maxHeartbeats 1000000 in
set_option maxRecDepth 100000 in
theorem law_trims (ao : Option Addr) (cap : Nat) (l : List Chg) (since : Int) (hwf : Wf since) (w : World) (h : SlArg rChg w ao cap l) :
    Calls Try.prog 7 #[.slice ao l.length cap, .int .i64 since] w (TruePost w) := by
  have hl := h.at'
  have hll := Nat.le_trans h.le h.max
  clear h
  go_enter Try.func7, Try.ntmps7
  go_wp2_with fail
  refine (works_true _).mono ?_
  rintro e w1 ⟨rfl, hb1⟩
  unfold maxLen at hll
  by_cases hs : l.length ≤ 200
  · have hd : decide ((200:Int) < (l.length : Int)) = false := by simp; omega
    go_wp2_with fail
    refine (check_any _ _ _ _ (hl.old hb1).here (by unfold maxLen; omega)).mono ?_
    rintro e w2 ⟨rfl, hb2⟩
    have hB2 := chain hb1 hb2
    by_cases hc : chkL l = 0
    · obtain ⟨_, hk, hg, hct⟩ := chkL_ok hc
      have ht1 := Lib.hid (trim_trim l)
      have ht2 := Lib.hid (net_trim since hg)
      have htl := trimL_len l
      have hnl : (netL since l).length ≤ l.length := Nat.le_trans (trimL_len _) (List.length_filter_le _ _)
      have hc0 : (chkL l != (0:Int)) = false := by simp [hc]
      clear hk hg hc
      have HCT := Lib.hid hct
      clear hct
      go_wp2_with fail
      refine (trim_any _ _ _ _ (hl.old hB2).here (by omega)).mono ?_
      rintro e w3 ⟨ao3, cap3, rfl, hO3, hb3⟩
      have hB3 := chain hB2 hb3
      go_wp2_with fail
      refine (check_any _ _ _ _ hO3.here (by unfold maxLen; omega)).mono ?_
      rintro e w4 ⟨rfl, hb4⟩
      rw [HCT.out]
      have hB4 := chain hB3 hb4
      have hO4 := hO3.below hb4
      go_wp2_with fail
      refine (trim_any _ _ _ _ hO4.here (by omega)).mono ?_
      rintro e w5 ⟨ao5, cap5, rfl, hO5, hb5⟩
      rw [ht1.out] at hO5 ⊢
      have hB5 := chain hB4 hb5
      have hO4 := hO4.below hb5
      go_wp2_with fail
      refine (same_ref _ _ _ _ _ _ _ hO5.here hO4.here (by omega)).mono ?_
      rintro e w6 ⟨rfl, hb6⟩
      rw [decide_eq_true (rfl : trimL l = trimL l)]
      have hB6 := chain hB5 hb6
      have hO4 := hO4.below hb6
      clear hO5
      go_wp2_with fail
      refine (net_any _ _ _ _ _ hO4.here (by omega)).mono ?_
      rintro e w7 ⟨ao7, cap7, rfl, hO7, hb7⟩
      rw [ht2.out] at hO7 ⊢
      have hB7 := chain hB6 hb7
      go_wp2_with fail
      refine (net_any _ _ _ _ _ (hl.old hB7).here (by omega)).mono ?_
      rintro e w8 ⟨ao8, cap8, rfl, hO8, hb8⟩
      have hB8 := chain hB7 hb8
      have hO7 := hO7.below hb8
      go_wp2_with fail
      refine (same_ref _ _ _ _ _ _ _ hO7.here hO8.here (by omega)).mono ?_
      rintro e w9 ⟨rfl, hb9⟩
      rw [decide_eq_true (rfl : netL since l = netL since l)]
      go_wp2_with fail
      go_ret
      exact ⟨rfl, chain hB8 hb9⟩
    · have hc0 : (chkL l != (0:Int)) = true := by simp [hc]
      go_wp2_with fail
      go_ret
      exact ⟨rfl, hB2⟩
  · have hd : decide ((200:Int) < (l.length : Int)) = true := by simp; omega
    go_wp2_with fail
    go_ret
    exact ⟨rfl, hb1⟩

set_option maxHeartbeats 1000000 in
set_option maxRecDepth 100000 in
theorem law_net (bo : Option Addr) (bcap : Nat) (ids : List Int) (ao : Option Addr) (cap : Nat) (l : List Chg) (since : Int) (hwf : Wf since) (w : World) (h1 : SlArg (Rd.int .i64) w bo bcap ids) (h2 : SlArg rChg w ao cap l) :
    Calls Try.prog 6 #[.slice bo ids.length bcap, .slice ao l.length cap, .int .i64 since] w (TruePost w) := by
  have hi := h1.at'
  have hill := Nat.le_trans h1.le h1.max
  have hl := h2.at'
  have hll := Nat.le_trans h2.le h2.max
  unfold maxLen at hill hll
  clear h1 h2
  obtain ⟨i0, hi0, hz0, hz1, hz2⟩ := info_parts info28
  have HI := Lib.hid hi0; have HZ0 := Lib.hid hz0; have HZ1 := Lib.hid hz1; have HZ2 := Lib.hid hz2
  clear hi0 hz0 hz1 hz2
  go_enter Try.func6, Try.ntmps6
  go_wp2_with fail
  refine (works_true _).mono ?_
  rintro e w1 ⟨rfl, hb1⟩
  by_cases hs : l.length ≤ 200
  · have hd : decide ((200:Int) < (l.length : Int)) = false := by simp; omega
    by_cases hs2 : ids.length ≤ 200
    · have hd2 : decide ((200:Int) < (ids.length : Int)) = false := by simp; omega
      go_wp2_with fail
      refine (check_any _ _ _ _ (hl.old hb1).here (by unfold maxLen; omega)).mono ?_
      rintro e w2 ⟨rfl, hb2⟩
      have hB2 := chain hb1 hb2
      by_cases hc : chkL l = 0
      · obtain ⟨_, hk, hg, _⟩ := chkL_ok hc
        have HT := Lib.hid (apply_trim ids hk)
        have HN := Lib.hid (apply_net ids since hk hg)
        have htl := trimL_len l
        have hnl : (netL since l).length ≤ l.length := Nat.le_trans (trimL_len _) (List.length_filter_le _ _)
        have hel : (earlyL since l).length ≤ l.length := List.length_filter_le _ _
        have hal := apply_len ids l
        have hael := apply_len ids (earlyL since l)
        have hc0 : (chkL l != (0:Int)) = false := by simp [hc]
        clear hk hg hc
        go_wp2_with fail
        refine (apply_any _ _ _ _ _ _ _ (hi.old hB2).here (hl.old hB2).here (by omega) (by omega)).mono ?_
        rintro e w3 ⟨ao3, cap3, rfl, hO3, hb3⟩
        have hB3 := chain hB2 hb3
        have hsz3 := hB3.size
        go_wp2_with fail
        go_loopw [8, 9] (fun v8 v9 wr => ∃ k : Nat, k ≤ l.length ∧ v9 = .int .i64 k ∧ Own rChg (fun _ => True) wr w3.heap.size 28 v8 (earlyL since (l.take k)) ∧ Below w3.heap.size w3 wr) (fun _ v9 _ => l.length - (intOf v9).toNat)
        case atStart => exact ⟨0, by omega, rfl, Own.nil _ _ _ _ _, Below.refl _ _⟩
        case round =>
          obtain ⟨k, hkk, rfl, hO, hb⟩ := hrel
          have hsz := hb.size
          have hBr := chain hB3 hb
          by_cases hkl : k < l.length
          · obtain ⟨c, hcl⟩ := some_at hkl
            obtain ⟨b1, o1, rfl, hb1', x1, x2, x3⟩ := chg_get (hl.old hBr) hcl
            obtain ⟨g1, g2, g3⟩ := chg_wf (hl.old hBr) hcl
            have hlim : k ≤ 200 := by omega
            have hfl : (earlyL since (l.take k)).length ≤ k := Nat.le_trans (List.length_filter_le _ _) (by simp; omega)
            by_cases hcs : c.1 ≤ since
            · have HE := Lib.hid (show earlyL since (l.take (k + 1)) = earlyL since (l.take k) ++ [c] by rw [take_at2 hcl, early_snoc, if_pos hcs])
              go_wp2_with (first
                | (at_builtin; refine wpList_push rChg rfl _ _ 22 rfl w3.heap.size 28 i0 _ 24 Try.underlying22 HI.out HZ0.out HZ1.out HZ2.out rfl (by decide) (fun _ => True) _ (earlyL since (l.take k)) rfl hO [.int .i64 c.1, .int .i64 c.2.1, .int .i64 c.2.2] c _ rfl (by simp) (chg_rel _ _ _ g1 g2 g3) (by simp [Value.oneCell']) (by unfold maxLen; omega) (by omega) (by omega) ?_; intro v5 w5 hO5 hK5 hw5))
              have hB5 := hO.kbelow (B := w3.heap.size) (by omega) hsz hK5
              go_roundw
              case measure => simp [intOf]; omega
              case rel => exact ⟨k + 1, by omega, by go_num, by rw [HE.out]; exact hO5, hb.trans hB5⟩
            · have HE := Lib.hid (show earlyL since (l.take (k + 1)) = earlyL since (l.take k) by rw [take_at2 hcl, early_snoc, if_neg hcs, List.append_nil])
              go_wp2_with fail
              go_roundw
              case measure => simp [intOf]; omega
              case rel => exact ⟨k + 1, by omega, by go_num, by rw [HE.out]; exact hO, hb⟩
          · obtain rfl : k = l.length := by omega
            rw [List.take_length] at hO
            obtain ⟨ao4, cap4, rfl⟩ := hO.form
            have hO3 := hO3.below hb
            go_wp2_with fail
            refine (apply_any _ _ _ _ _ _ _ (hi.old hBr).here hO.here (by omega) (by omega)).mono ?_
            rintro e w5 ⟨ao5, cap5, rfl, hO5, hb5⟩
            have hB5 := chain hBr hb5
            have hO3 := hO3.below hb5
            clear hO
            go_wp2_with fail
            refine (net_any _ _ _ _ _ (hl.old hB5).here (by omega)).mono ?_
            rintro e w6 ⟨ao6, cap6, rfl, hO6, hb6⟩
            have hB6 := chain hB5 hb6
            have hO3 := hO3.below hb6
            have hO5 := hO5.below hb6
            go_wp2_with fail
            refine (apply_any _ _ _ _ _ _ _ hO5.here hO6.here (by omega) (by omega)).mono ?_
            rintro e w7 ⟨ao7, cap7, rfl, hO7, hb7⟩
            rw [HN.out] at hO7 ⊢
            have hB7 := chain hB6 hb7
            have hO3 := hO3.below hb7
            clear hO5 hO6
            go_wp2_with fail
            refine (trim_any _ _ _ _ (hl.old hB7).here (by omega)).mono ?_
            rintro e w8 ⟨ao8, cap8, rfl, hO8, hb8⟩
            have hB8 := chain hB7 hb8
            have hO3 := hO3.below hb8
            have hO7 := hO7.below hb8
            go_wp2_with fail
            refine (apply_any _ _ _ _ _ _ _ (hi.old hB8).here hO8.here (by omega) (by omega)).mono ?_
            rintro e w9 ⟨ao9, cap9, rfl, hO9, hb9⟩
            rw [HT.out] at hO9 ⊢
            have hB9 := chain hB8 hb9
            have hO3 := hO3.below hb9
            have hO7 := hO7.below hb9
            clear hO8
            go_wp2_with fail
            refine (sameInts_ref _ _ _ _ _ _ _ hO3.here hO9.here (by omega)).mono ?_
            rintro e w10 ⟨rfl, hb10⟩
            rw [decide_eq_true (rfl : applyL ids l = applyL ids l)]
            have hB10 := chain hB9 hb10
            have hO3 := hO3.below hb10
            have hO7 := hO7.below hb10
            clear hO9
            go_wp2_with fail
            refine (sameInts_ref _ _ _ _ _ _ _ hO3.here hO7.here (by omega)).mono ?_
            rintro e w11 ⟨rfl, hb11⟩
            rw [decide_eq_true (rfl : applyL ids l = applyL ids l)]
            go_wp2_with fail
            go_ret
            exact ⟨rfl, chain hB10 hb11⟩
      · have hc0 : (chkL l != (0:Int)) = true := by simp [hc]
        go_wp2_with fail
        go_ret
        exact ⟨rfl, hB2⟩
    · have hd2 : decide ((200:Int) < (ids.length : Int)) = true := by simp; omega
      go_wp2_with fail
      go_ret
      exact ⟨rfl, hb1⟩
  · have hd : decide ((200:Int) < (l.length : Int)) = true := by simp; omega
    go_wp2_with fail
    go_ret
    exact ⟨rfl, hb1⟩
end Go.Proofs.Ytkmkedmefhmnaaa
