/- Whether two lists of texts are the same: the document's Same. -/
import Derived.Test.YtefefpiealknlaaGreatDoorStrs
namespace Go.Proofs.YtefefpiealknlaaGreatDoor
open Go.RowKit Lift
set_option linter.unusedSimpArgs false
set_option linter.unusedVariables false

set_option maxHeartbeats 1000000 in
set_option maxRecDepth 100000 in
theorem same_strs (ao bo : Option Addr) (cap cap2 : Nat) (l m : List ByteArray) (w : World) (hl : SlAt Rd.str (· < w.heap.size) w ao l) (hm : SlAt Rd.str (· < w.heap.size) w bo m) (hlen : l.length ≤ 100000) :
    Calls Tryz.prog 8 #[.slice ao l.length cap, .slice bo m.length cap2] w (BelowPost (.bool (decide (l = m))) w) := by
  by_cases hlm : l.length = m.length
  · have hne : ((l.length : Int) != (m.length : Int)) = false := by simp [hlm]
    have hle1 : l.length ≤ m.length := by omega
    have hle2 : m.length ≤ l.length := by omega
    have HLM := Lib.hid hlm
    clear hlm
    go_enter Tryz.func8, Tryz.ntmps8
    go_wp2_with fail
    go_loopw [5] (fun v5 wr => ∃ k : Nat, k ≤ l.length ∧ v5 = .int .i64 k ∧ Hid (l.take k = m.take k) ∧ Below w.heap.size w wr) (fun v5 _ => l.length - (intOf v5).toNat)
    case atStart => exact ⟨0, by omega, rfl, Lib.hid rfl, Below.refl _ _⟩
    case round =>
      obtain ⟨k, hk, rfl, heq, hb⟩ := hrel
      by_cases hkl : k < l.length
      · obtain ⟨c, hcl⟩ := some_at hkl
        obtain ⟨d, hdm⟩ := some_at (show k < m.length by omega)
        obtain ⟨b1, o1, rfl, hs1, hb1, hok1, x0⟩ := str_get (hl.old hb) hcl
        obtain ⟨b2, o2, rfl, hs2, hb2, hok2, y0⟩ := str_get (hm.old hb) hdm
        have hkl1 : (k:Int) < (l.length : Int) := by omega
        have hkm : (k:Int) < (m.length : Int) := by omega
        have hlim : k ≤ 100000 := by omega
        by_cases hcd : c = d
        · have HT := Lib.hid (take_same heq.out hcl hdm hcd)
          subst hcd
          go_wp2_with fail
          (refine wp_region_quiet_lit (by kernel_rfl) (by kernel_rfl) ?_; (repeat (any_goals (first | go_big_quiet_step (fail) | quiet_step (fail) | (refine wpQuiet_step (fun K hK => ?_); go_simp; split <;> (refine hK _ ?_; clear hK K))))); all_goals (refine wpQuiet_nil ?_; intro _ hw'; obtain ⟨nq, hw''⟩ := hw'; subst hw''))
          go_wp2_with fail
          go_roundw
          case measure => simp [intOf]; omega
          case rel => exact ⟨k + 1, by omega, by go_num, HT, bN _ hb⟩
        · have HT := Lib.hid (ne_at hcl hdm hcd)
          have e0 : (c.toList == d.toList) = false := by rw [str_eq]; simpa using hcd
          clear hcd
          go_wp2_with fail
          (refine wp_region_quiet_lit (by kernel_rfl) (by kernel_rfl) ?_; (repeat (any_goals (first | go_big_quiet_step (fail) | quiet_step (fail) | (refine wpQuiet_step (fun K hK => ?_); go_simp; split <;> (refine hK _ ?_; clear hK K))))); all_goals (refine wpQuiet_nil ?_; intro _ hw'; obtain ⟨nq, hw''⟩ := hw'; subst hw''))
          go_wp2_with fail
          go_ret
          exact ⟨ret_bool (by simpa using HT.out), bN _ hb⟩
      · obtain rfl : k = l.length := by omega
        have HT := Lib.hid (show l = m by have := heq.out; rwa [List.take_length, List.take_of_length_le hle2] at this)
        go_wp2_with fail
        go_ret
        exact ⟨ret_bool (by simpa using HT.out), hb⟩
  · have hne : ((l.length : Int) != (m.length : Int)) = true := by simp; omega
    have HLM := Lib.hid hlm
    clear hlm
    go_enter Tryz.func8, Tryz.ntmps8
    go_wp2_with fail
    go_ret
    exact ⟨ret_bool (by have := HLM.out; simp; rintro rfl; exact this rfl), Below.refl _ _⟩

theorem same_eq (ao bo : Option Addr) (cap cap2 n : Nat) (l m : List ByteArray) (w : World) (hl : SlAt Rd.str (· < w.heap.size) w ao l) (hm : SlAt Rd.str (· < w.heap.size) w bo m) (hlen : l.length ≤ 100000) (hn : n = m.length) (h : l = m) :
    Calls Tryz.prog 8 #[.slice ao l.length cap, .slice bo n cap2] w (BelowPost (.bool true) w) := by
  subst hn
  have := same_strs ao bo cap cap2 l m w hl hm hlen
  rwa [decide_eq_true h] at this
end Go.Proofs.YtefefpiealknlaaGreatDoor
