/- Decode of the reference is decL. -/
import Derived.Test.YtjcglbopggcmdaaDecW
namespace Go.Proofs.Ytjcglbopggcmdaa
open Go.RowKit Lift
set_option linter.unusedSimpArgs false
set_option linter.unusedVariables false

theorem mark_no {c : UInt8} (h : c = 61) : ¬ (Shown c ∨ Blank c) := by subst h; decide
theorem decL_bad {acc l : List UInt8} {c : UInt8} (h : ¬ (Shown c ∨ Blank c)) (h2 : c.toNat ≠ 61) : decL acc (c :: l) = ([], 3) := by
  rw [decL.eq_def]; simp only [if_neg h, if_pos h2]
theorem decL_1 {acc : List UInt8} : decL acc [61] = ([], 1) := rfl
theorem decL_2 {acc l : List UInt8} {x : UInt8} (h : digN x.toNat < 0) (h2 : x.toNat ≠ 13) : decL acc (61 :: x :: l) = ([], 3) := by
  rw [decL.eq_def]; simp only [if_neg (mark_no rfl)]; rw [if_neg (by decide), if_pos ⟨h, h2⟩]
theorem decL_3 {acc : List UInt8} {x : UInt8} (h : ¬ (digN x.toNat < 0 ∧ x.toNat ≠ 13)) : decL acc [61, x] = ([], 1) := by
  rw [decL.eq_def]; simp only [if_neg (mark_no rfl)]; rw [if_neg (by decide), if_neg h]
theorem decL_4 {acc l : List UInt8} {x y : UInt8} (h : x.toNat = 13) (h2 : y.toNat = 10) : decL acc (61 :: x :: y :: l) = decL acc l := by
  rw [decL.eq_def]; simp only [if_neg (mark_no rfl)]; rw [if_neg (by decide), if_neg (by omega), if_pos ⟨h, h2⟩]
theorem decL_5 {acc l : List UInt8} {x y : UInt8} (h : x.toNat = 13) (h2 : y.toNat ≠ 10) : decL acc (61 :: x :: y :: l) = ([], 3) := by
  rw [decL.eq_def]; simp only [if_neg (mark_no rfl)]; rw [if_neg (by decide), if_neg (by omega), if_neg (by omega), if_pos (.inl h)]
theorem decL_6 {acc l : List UInt8} {x y : UInt8} (h : x.toNat ≠ 13) (h1 : 0 ≤ digN x.toNat) (h2 : digN y.toNat < 0) : decL acc (61 :: x :: y :: l) = ([], 3) := by
  rw [decL.eq_def]; simp only [if_neg (mark_no rfl)]; rw [if_neg (by decide), if_neg (by omega), if_neg (by omega), if_pos (.inr h2)]
theorem decL_7 {acc l : List UInt8} {x y q : UInt8} (h : x.toNat ≠ 13) (h1 : 0 ≤ digN x.toNat) (h2 : 0 ≤ digN y.toNat) (hq : (q.toNat : Int) = 16 * digN x.toNat + digN y.toNat) : decL acc (61 :: x :: y :: l) = decL (acc ++ [q]) l := by
  rw [decL.eq_def]; simp only [if_neg (mark_no rfl)]; rw [if_neg (by decide), if_neg (by omega), if_neg (by omega), if_neg (by omega), ← hq]; simp

/-- What the reference's loop keeps. -/
def RIn (s : ByteArray) (w wr : World) (v4 v5 : Value) : Prop :=
  ∃ (k : Nat) (acc : List UInt8), k ≤ s.size ∧ v5 = .int .i64 k ∧ wr.ownsRow w.heap.size 5 1 v4 acc.length (Lib.byteCells acc) ∧ decL acc (s.data.toList.drop k) = decL [] s.data.toList ∧ acc.length ≤ k ∧ Below w.heap.size w wr

set_option maxHeartbeats 1000000 in
set_option maxRecDepth 100000 in
theorem decode_ref (s : ByteArray) (w : World) (hs : s.size ≤ 1000000) :
    Calls Try.prog 11 #[.string s] w (DecPost (decL [] s.data.toList) w) := by
  obtain ⟨i0, hi, hz0, hz1, hz2⟩ := info_parts Try.infoByte
  go_enter Try.func11, Try.ntmps11
  go_wp2_with fail
  go_loopw [4, 5] (fun v4 v5 wr => RIn s w wr v4 v5) (fun _ v5 _ => s.size - (intOf v5).toNat)
  case atStart => exact ⟨0, [], Nat.zero_le _, rfl, World.ownsRow_nil _ _ _ _, by simp, by simp, Below.refl _ _⟩
  case round =>
    obtain ⟨k, acc, hk, rfl, hown, hdec, hal, hb⟩ := hrel
    have hB' := hb.size
    by_cases hks : k < s.size
    · have hl := drop_at s k hks
      rw [getD_at s k hks] at hl
      obtain ⟨c, hcd⟩ : ∃ c, s[k] = c := ⟨_, rfl⟩
      rw [hcd] at hl
      rw [hl] at hdec
      by_cases hc : Shown c ∨ Blank c
      · rw [decL_plain hc] at hdec
        have HDEC := Lib.hid hdec
        clear hdec hl
        have h3 : ((c.toNat : Int) == 32) = true ∨ (((c.toNat : Int) == 32) = false ∧ ((c.toNat : Int) == 9) = true) ∨ (((c.toNat : Int) == 32) = false ∧ ((c.toNat : Int) == 9) = false ∧ (33:Int) ≤ c.toNat ∧ (c.toNat:Int) ≤ 126 ∧ ((c.toNat : Int) != 61) = true) := by
          unfold Shown Blank at hc; simp; omega
        clear hc
        rcases h3 with h3 | ⟨h3, h4⟩ | ⟨h3, h4, h5, h6, h7⟩
        all_goals
          go_wp2_with (at_builtin; refine wpList_append2 rfl _ _ 32 rfl w.heap.size 5 i0 (.int .u8 0) 1 1 Try.underlying32 hi hz0 hz1 hz2 rfl (by decide) u4 _ _ rfl (hown.alloc _) _ 1 1 [_] rfl (by intro h; cases h) rfl (cells_new1 _ _ 5) (by intro u hu; simp at hu; subst hu; rfl) (by unfold maxLen; omega) (by omega) (by simp; omega) ?_)
          intro v' w2 hown2 hgrow _ hwh
          have hfin : RIn s w w2 v' (.int .i64 ((k:Int) + 1)) := by
            refine ⟨k + 1, acc ++ [c], by omega, by simp, by simpa [Lib.byteCells] using hown2, HDEC.out, by simp; omega, ?_⟩
            exact (hb.alloc hB' _).grown hgrow (by simp; omega) (fun j hj => (hown.lt j hj).1)
          have HF := Lib.hid hfin
          obtain ⟨ao, cap, rfl⟩ := own_form hown2
          clear hfin hown2 hgrow hwh
          go_wp2_with fail
          go_roundw
          case measure => simp [intOf]; omega
          case rel => exact HF.out
      · by_cases hc6 : c = 61
        · subst hc6
          have hn : k + 1 ≤ s.size := hks
          clear hc
          by_cases h1 : k + 1 = s.size
          · rw [List.drop_of_length_le (by simp; omega), decL_1] at hdec
            have HDEC := Lib.hid hdec
            have hd1 : ((k : Int) + 1 == (s.size : Int)) = true := by simp; omega
            clear hdec hl
            go_wp2_with fail
            go_ret2
            exact ⟨by rw [← HDEC.out]; rfl, hb⟩
          · have hk1 : k + 1 < s.size := by omega
            have i1 : (k : Int) + 1 < (s.size : Int) := by omega
            have hd1 : ((k : Int) + 1 == (s.size : Int)) = false := by simp; omega
            have hl1 := drop_at s (k + 1) hk1
            rw [getD_at s (k + 1) hk1] at hl1
            obtain ⟨x, hxd⟩ : ∃ x, s[k + 1] = x := ⟨_, rfl⟩
            rw [hxd] at hl1
            rw [hl1] at hdec
            have hx256 := x.toNat_lt
            have hxr := digN_lt x.toNat
            by_cases hx3 : digN x.toNat < 0 ∧ x.toNat ≠ 13
            · rw [decL_2 hx3.1 hx3.2] at hdec
              have HDEC := Lib.hid hdec
              have hd2 : ((x.toNat : Int) != 13) = true := by simp; omega
              have hd3 : decide (digN x.toNat < 0) = true := by simpa using hx3.1
              clear hdec hl hl1 hx3
              go_wp2_with fail
              (refine wp_region_quiet_lit (by kernel_rfl) (by kernel_rfl) ?_; (repeat (any_goals (first | go_big_quiet_step ((go_at_call 24; exact Calls.quiet_of_same (half_any _ (by omega) _))) | quiet_step ((go_at_call 24; exact Calls.quiet_of_same (half_any _ (by omega) _))) | (refine wpQuiet_step (fun K hK => ?_); go_simp; split <;> (refine hK _ ?_; clear hK K))))); all_goals (refine wpQuiet_nil ?_; intro _ hw'; obtain ⟨nq, hw''⟩ := hw'; subst hw''))
              go_wp2_with fail
              go_ret2
              exact ⟨by rw [← HDEC.out]; rfl, (by first | exact Below.refl _ _ | ((repeat (refine bN _ ?_)); first | exact Below.refl _ _ | go_grown))⟩
            · have hx4 : ((x.toNat : Int) != 13) = false ∨ (((x.toNat : Int) != 13) = true ∧ decide (digN x.toNat < 0) = false) := by simp; omega
              by_cases h2 : k + 2 = s.size
              · rw [List.drop_of_length_le (i := k + 1 + 1) (by simp; omega), decL_3 hx3] at hdec
                have HDEC := Lib.hid hdec
                have hd4 : ((k : Int) + 2 == (s.size : Int)) = true := by simp; omega
                clear hdec hl hl1 hx3
                rcases hx4 with hx4 | ⟨hx4, hx5⟩
                all_goals
                  go_wp2_with fail
                  (refine wp_region_quiet_lit (by kernel_rfl) (by kernel_rfl) ?_; (repeat (any_goals (first | go_big_quiet_step ((go_at_call 24; exact Calls.quiet_of_same (half_any _ (by omega) _))) | quiet_step ((go_at_call 24; exact Calls.quiet_of_same (half_any _ (by omega) _))) | (refine wpQuiet_step (fun K hK => ?_); go_simp; split <;> (refine hK _ ?_; clear hK K))))); all_goals (refine wpQuiet_nil ?_; intro _ hw'; obtain ⟨nq, hw''⟩ := hw'; subst hw''))
                  go_wp2_with fail
                  go_ret2
                  exact ⟨by rw [← HDEC.out]; rfl, (by first | exact Below.refl _ _ | ((repeat (refine bN _ ?_)); first | exact Below.refl _ _ | go_grown))⟩
              · have hk2 : k + 2 < s.size := by omega
                have i2 : (k : Int) + 2 < (s.size : Int) := by omega
                have hd4 : ((k : Int) + 2 == (s.size : Int)) = false := by simp; omega
                have hl2 := drop_at s (k + 2) hk2
                rw [getD_at s (k + 2) hk2] at hl2
                obtain ⟨y, hyd⟩ : ∃ y, s[k + 2] = y := ⟨_, rfl⟩
                rw [hyd] at hl2
                rw [hl2] at hdec
                have hy256 := y.toNat_lt
                have hyr := digN_lt y.toNat
                by_cases hx13 : x.toNat = 13
                · have e1 : ((x.toNat : Int) != 13) = false := by simp; omega
                  have e1' : ((x.toNat : Int) == 13) = true := by simp; omega
                  by_cases hy10 : y.toNat = 10
                  · rw [decL_4 hx13 hy10] at hdec
                    have e2 : ((y.toNat : Int) != 10) = false := by simp; omega
                    have HDEC := Lib.hid hdec
                    clear hdec hl hl1 hl2 hx3 hx4 hx13 hy10
                    go_wp2_with fail
                    (refine wp_region_quiet_lit (by kernel_rfl) (by kernel_rfl) ?_; (repeat (any_goals (first | go_big_quiet_step ((go_at_call 24; exact Calls.quiet_of_same (half_any _ (by omega) _))) | quiet_step ((go_at_call 24; exact Calls.quiet_of_same (half_any _ (by omega) _))) | (refine wpQuiet_step (fun K hK => ?_); go_simp; split <;> (refine hK _ ?_; clear hK K))))); all_goals (refine wpQuiet_nil ?_; intro _ hw'; obtain ⟨nq, hw''⟩ := hw'; subst hw''))
                    go_wp2_with (go_at_call 24; refine (half_any _ (by omega) _).mono ?_; rintro e w1 ⟨rfl, rfl⟩)
                    go_wp2_with fail
                    go_roundw
                    case measure => simp [intOf]; omega
                    case rel => exact ⟨k + 3, acc, by omega, by go_num, own_below hown (bN _ (Below.refl _ _)) (fun k hk => (hown.lt k hk).2), HDEC.out, by omega, hb.trans (bN _ (Below.refl _ _))⟩
                  · rw [decL_5 hx13 hy10] at hdec
                    have e2 : ((y.toNat : Int) != 10) = true := by simp; omega
                    have HDEC := Lib.hid hdec
                    clear hdec hl hl1 hl2 hx3 hx4 hx13 hy10
                    go_wp2_with fail
                    (refine wp_region_quiet_lit (by kernel_rfl) (by kernel_rfl) ?_; (repeat (any_goals (first | go_big_quiet_step ((go_at_call 24; exact Calls.quiet_of_same (half_any _ (by omega) _))) | quiet_step ((go_at_call 24; exact Calls.quiet_of_same (half_any _ (by omega) _))) | (refine wpQuiet_step (fun K hK => ?_); go_simp; split <;> (refine hK _ ?_; clear hK K))))); all_goals (refine wpQuiet_nil ?_; intro _ hw'; obtain ⟨nq, hw''⟩ := hw'; subst hw''))
                    go_wp2_with (go_at_call 24; refine (half_any _ (by omega) _).mono ?_; rintro e w1 ⟨rfl, rfl⟩)
                    go_ret2
                    exact ⟨by rw [← HDEC.out]; rfl, (by first | exact Below.refl _ _ | ((repeat (refine bN _ ?_)); first | exact Below.refl _ _ | go_grown))⟩
                · have e1 : ((x.toNat : Int) != 13) = true := by simp; omega
                  have e1' : ((x.toNat : Int) == 13) = false := by simp; omega
                  have hx0 : 0 ≤ digN x.toNat := by omega
                  have e3 : decide (digN x.toNat < 0) = false := by simpa using hx0
                  by_cases hy0 : digN y.toNat < 0
                  · rw [decL_6 hx13 hx0 hy0] at hdec
                    have e4 : decide (digN y.toNat < 0) = true := by simpa using hy0
                    have HDEC := Lib.hid hdec
                    clear hdec hl hl1 hl2 hx3 hx4 hx13
                    go_wp2_with fail
                    (refine wp_region_quiet_lit (by kernel_rfl) (by kernel_rfl) ?_; (repeat (any_goals (first | go_big_quiet_step ((go_at_call 24; exact Calls.quiet_of_same (half_any _ (by omega) _))) | quiet_step ((go_at_call 24; exact Calls.quiet_of_same (half_any _ (by omega) _))) | (refine wpQuiet_step (fun K hK => ?_); go_simp; split <;> (refine hK _ ?_; clear hK K))))); all_goals (refine wpQuiet_nil ?_; intro _ hw'; obtain ⟨nq, hw''⟩ := hw'; subst hw''))
                    go_wp2_with (go_at_call 24; refine (half_any _ (by omega) _).mono ?_; rintro e w1 ⟨rfl, rfl⟩)
                    go_ret2
                    exact ⟨by rw [← HDEC.out]; rfl, (by first | exact Below.refl _ _ | ((repeat (refine bN _ ?_)); first | exact Below.refl _ _ | go_grown))⟩
                  · obtain ⟨q, hq⟩ : ∃ q : UInt8, (q.toNat : Int) = 16 * digN x.toNat + digN y.toNat := ⟨UInt8.ofNat (16 * digN x.toNat + digN y.toNat).toNat, by simp; omega⟩
                    rw [decL_7 hx13 hx0 (by omega) hq] at hdec
                    have e4 : decide (digN y.toNat < 0) = false := by simpa using hy0
                    have HDEC := Lib.hid hdec; have HQ := Lib.hid hq
                    clear hdec hl hl1 hl2 hx3 hx4 hx13 hq
                    go_wp2_with fail
                    (refine wp_region_quiet_lit (by kernel_rfl) (by kernel_rfl) ?_; (repeat (any_goals (first | go_big_quiet_step ((go_at_call 24; exact Calls.quiet_of_same (half_any _ (by omega) _))) | quiet_step ((go_at_call 24; exact Calls.quiet_of_same (half_any _ (by omega) _))) | (refine wpQuiet_step (fun K hK => ?_); go_simp; split <;> (refine hK _ ?_; clear hK K))))); all_goals (refine wpQuiet_nil ?_; intro _ hw'; obtain ⟨nq, hw''⟩ := hw'; subst hw''))
                    go_wp2_with (first | (go_at_call 24; refine (half_any _ (by omega) _).mono ?_; rintro e w1 ⟨rfl, rfl⟩) | (at_builtin; refine wpList_append2 rfl _ _ 32 rfl w.heap.size 5 i0 (.int .u8 0) 1 1 Try.underlying32 hi hz0 hz1 hz2 rfl (by decide) u4 _ _ rfl ((own_below hown (bN _ (Below.refl _ _)) (fun k hk => (hown.lt k hk).2)).alloc _) _ 1 1 [_] rfl (by intro h; cases h) rfl (cells_new1 _ _ 5) (by intro u hu; simp at hu; subst hu; rfl) (by unfold maxLen; omega) (by omega) (by simp; omega) ?_))
                    intro v' w2 hown2 hgrow _ hwh
                    have hfin : RIn s w w2 v' (.int .i64 ((k:Int) + 3)) := by
                      refine ⟨k + 3, acc ++ [q], by omega, by simp, by rw [← HQ.out] at hown2; simpa [Lib.byteCells] using hown2, HDEC.out, by simp; omega, ?_⟩
                      exact ((hb.trans (bN _ (Below.refl _ _))).alloc (by simpa using hB') _).grown hgrow (by simp; omega) (fun j hj => (hown.lt j hj).1)
                    have HF := Lib.hid hfin
                    obtain ⟨ao, cap, rfl⟩ := own_form hown2
                    clear hfin hown2 hgrow hwh
                    go_wp2_with fail
                    go_roundw
                    case measure => simp [intOf]; omega
                    case rel => exact HF.out
        · rw [decL_bad hc (fun h => hc6 (UInt8.toNat_inj.1 h))] at hdec
          have HDEC := Lib.hid hdec
          have h1 : ((c.toNat : Int) == 32) = false := by unfold Shown Blank at hc; simp; omega
          have h2 : ((c.toNat : Int) == 9) = false := by unfold Shown Blank at hc; simp; omega
          have h4 : ((c.toNat : Int) != 61) = true := by
            have : c.toNat ≠ 61 := fun h => hc6 (UInt8.toNat_inj.1 h)
            simp; omega
          have h3 : (c.toNat : Int) < 33 ∨ ((33 : Int) ≤ c.toNat ∧ (126 : Int) < c.toNat) := by
            have : c.toNat ≠ 61 := fun h => hc6 (UInt8.toNat_inj.1 h)
            unfold Shown at hc; omega
          clear hdec hl hc hc6
          rcases h3 with h3 | ⟨h3, h5⟩
          all_goals
            go_wp2_with fail
            go_ret2
            exact ⟨by rw [← HDEC.out]; rfl, hb⟩
    · obtain rfl : k = s.size := by omega
      rw [List.drop_of_length_le (by simp)] at hdec
      rw [decL] at hdec
      have HDEC := Lib.hid hdec
      clear hdec
      have hst := own_string (P := Try.prog) hown 32 9 5 Try.underlying32 Try.underlying5 Try.underlying9
      go_wp2_with fail
      go_ret2
      exact ⟨by rw [← HDEC.out]; rfl, hb⟩
end Go.Proofs.Ytjcglbopggcmdaa
