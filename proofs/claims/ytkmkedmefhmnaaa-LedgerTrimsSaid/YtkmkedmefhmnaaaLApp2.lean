/- The reference's Apply. -/
import Derived.Test.YtkmkedmefhmnaaaLApp1
namespace Go.Proofs.Ytkmkedmefhmnaaa
open Go.RowKit Lift
set_option linter.unusedSimpArgs false
set_option linter.unusedVariables false

set_option maxHeartbeats 1000000 in
set_option maxRecDepth 100000 in
theorem apply_ref (bo : Option Addr) (bcap : Nat) (ids : List Int) (ao : Option Addr) (cap : Nat) (l : List Chg) (w : World) (hi : SlAt (Rd.int .i64) (· < w.heap.size) w bo ids) (hl : SlAt rChg (· < w.heap.size) w ao l) (hilen : ids.length ≤ 10000) (hlen : l.length ≤ 10000) :
    Calls Try.prog 19 #[.slice bo ids.length bcap, .slice ao l.length cap] w (ReadPost (Rd.int .i64) (applyL ids l) w) := by
  go_enter Try.func19, Try.ntmps19
  go_wp2_with fail
  go_loopw [5, 6] (fun v5 v6 wr => ∃ (k : Nat) (co : Option Addr) (ccap : Nat), k ≤ ids.length ∧ v6 = .int .i64 k ∧ v5 = .slice co (idsL (ids.take k)).length ccap ∧ SlAt (Rd.int .i64) (· < wr.heap.size) wr co (idsL (ids.take k)) ∧ (idsL (ids.take k)).length ≤ ccap ∧ (co = none → ccap = 0) ∧ Below w.heap.size w wr) (fun _ v6 _ => ids.length - (intOf v6).toNat)
  case atStart => exact ⟨0, none, 0, by omega, rfl, rfl, .inl rfl, by simp [idsL], fun _ => rfl, Below.refl _ _⟩
  case round =>
    obtain ⟨k, co, ccap, hk, rfl, rfl, hO, hc, hcn, hb⟩ := hrel
    by_cases hkl : k < ids.length
    · obtain ⟨x, hxl⟩ := some_at hkl
      obtain ⟨b1, o1, rfl, _, hb1, x1, g1⟩ := int_get (hi.old hb) hxl
      have hlim : k ≤ 10000 := by omega
      have hfl : (idsL (ids.take k)).length ≤ k := Nat.le_trans (ids_len _) (by simp; omega)
      have HT := Lib.hid (show idsL (ids.take (k + 1)) = withL x (idsL (ids.take k)) by rw [take_at2 hxl, ids_snoc])
      go_wp2_with fail
      refine (with_ref co ccap _ x g1 _ hO hc hcn (by omega)).mono ?_
      rintro e w2 ⟨do2, dcap, rfl, hO2, hc2, hn2, hb2⟩
      rw [← HT.out] at hO2 hc2 ⊢
      go_wp2_with fail
      go_roundw
      case measure => simp [intOf]; omega
      case rel => exact ⟨k + 1, do2, dcap, by omega, by go_num, rfl, hO2, hc2, hn2, chain hb hb2⟩
    · obtain rfl : k = ids.length := by omega
      rw [List.take_length] at hO hc ⊢
      go_wp2_with fail
      go_loopw [5, 7] (fun v5 v7 wx => ∃ (k : Nat) (co : Option Addr) (ccap : Nat), k ≤ l.length ∧ v7 = .int .i64 k ∧ v5 = .slice co (applyL ids (l.take k)).length ccap ∧ SlAt (Rd.int .i64) (· < wx.heap.size) wx co (applyL ids (l.take k)) ∧ (applyL ids (l.take k)).length ≤ ccap ∧ (co = none → ccap = 0) ∧ Below w.heap.size w wx) (fun _ v7 _ => l.length - (intOf v7).toNat)
      case atStart => exact ⟨0, co, ccap, by omega, rfl, rfl, hO, hc, hcn, hb⟩
      case round =>
        clear hO hc hcn hb
        obtain ⟨k, co, ccap, hk, rfl, rfl, hO, hc, hcn, hb⟩ := hrel
        by_cases hkl : k < l.length
        · obtain ⟨c, hcl⟩ := some_at hkl
          obtain ⟨b1, o1, rfl, hb1, x1, x2, x3⟩ := chg_get (hl.old hb) hcl
          obtain ⟨g1, g2, g3⟩ := chg_wf (hl.old hb) hcl
          have hlim : k ≤ 10000 := by omega
          have hfl : (applyL ids (l.take k)).length ≤ 20000 := Nat.le_trans (apply_len _ _) (by simp; omega)
          have HT := Lib.hid (show applyL ids (l.take (k + 1)) = stepL (applyL ids (l.take k)) c by rw [take_at2 hcl, apply_snoc])
          by_cases h1 : c.2.2 = 1
          · have HS := Lib.hid (HT.out.trans (show stepL _ c = _ from if_pos h1))
            have h2 : (c.2.2 == (1:Int)) = true := by simp [h1]
            go_wp2_with fail
            refine (with_ref co ccap _ c.2.1 g2 _ hO hc hcn (by omega)).mono ?_
            rintro e w2 ⟨do2, dcap, rfl, hO2, hc2, hn2, hb2⟩
            rw [← HS.out] at hO2 hc2 ⊢
            go_wp2_with fail
            go_roundw
            case measure => simp [intOf]; omega
            case rel => exact ⟨k + 1, do2, dcap, by omega, by go_num, rfl, hO2, hc2, hn2, chain hb hb2⟩
          · have h2 : (c.2.2 == (1:Int)) = false := by simp [h1]
            by_cases h3 : c.2.2 = 2
            · have HS := Lib.hid (HT.out.trans (show stepL _ c = _ from (if_neg h1).trans (if_pos h3)))
              have h4 : (c.2.2 == (2:Int)) = true := by simp [h3]
              go_wp2_with fail
              refine (without_ref co ccap _ c.2.1 _ hO (by omega)).mono ?_
              rintro e w2 ⟨do2, dcap, rfl, hO2, hb2⟩
              rw [← HS.out] at hO2 ⊢
              go_wp2_with fail
              go_roundw
              case measure => simp [intOf]; omega
              case rel => exact ⟨k + 1, do2, dcap, by omega, by go_num, rfl, hO2.here, hO2.cap.1, hO2.cap.2.2.2, chain hb hb2⟩
            · have HS := Lib.hid (HT.out.trans (show stepL _ c = _ from (if_neg h1).trans (if_neg h3)))
              have h4 : (c.2.2 == (2:Int)) = false := by simp [h3]
              rw [← HS.out] at hO hc ⊢
              go_wp2_with fail
              go_roundw
              case measure => simp [intOf]; omega
              case rel => exact ⟨k + 1, co, ccap, by omega, by go_num, rfl, hO, hc, hcn, hb⟩
        · obtain rfl : k = l.length := by omega
          rw [List.take_length] at hO hc ⊢
          go_wp2_with fail
          go_ret
          exact ⟨co, ccap, rfl, hO, hc, hcn, hb⟩

set_option maxHeartbeats 1000000 in
set_option maxRecDepth 100000 in
theorem sameInts_ref {S S' : Nat → Prop} (ao bo : Option Addr) (cap cap2 : Nat) (l m : List Int) (w : World) (hl : SlAt (Rd.int .i64) S w ao l) (hm : SlAt (Rd.int .i64) S' w bo m) (hlen : l.length ≤ 100000) :
    Calls Try.prog 17 #[.slice ao l.length cap, .slice bo m.length cap2] w (BelowPost (.bool (decide (l = m))) w) := by
  by_cases hlm : l.length = m.length
  · have hne : ((l.length : Int) != (m.length : Int)) = false := by simp [hlm]
    have hle1 : l.length ≤ m.length := by omega
    have hle2 : m.length ≤ l.length := by omega
    have HLM := Lib.hid hlm
    clear hlm
    go_enter Try.func17, Try.ntmps17
    go_wp2_with fail
    go_loopw [5] (fun v5 wr => ∃ k : Nat, k ≤ l.length ∧ v5 = .int .i64 k ∧ Hid (l.take k = m.take k) ∧ Below w.heap.size w wr) (fun v5 _ => l.length - (intOf v5).toNat)
    case atStart => exact ⟨0, by omega, rfl, Lib.hid rfl, Below.refl _ _⟩
    case round =>
      obtain ⟨k, hk, rfl, heq, hb⟩ := hrel
      by_cases hkl : k < l.length
      · obtain ⟨c, hcl⟩ := some_at hkl
        obtain ⟨d, hdm⟩ : ∃ c, m[k]? = some c := some_at (by omega)
        obtain ⟨b1, o1, rfl, _, hb1, x1, _⟩ := int_get (hl.below hb) hcl
        obtain ⟨b2, o2, rfl, _, hb2, y1, _⟩ := int_get (hm.below hb) hdm
        have hkm : (k:Int) < (m.length : Int) := by omega
        have hlim : k ≤ 100000 := by omega
        by_cases hcd : c = d
        · have HT := Lib.hid (take_same heq.out hcl hdm hcd)
          subst hcd
          go_wp2_with fail
          (refine wp_region_quiet_lit (by kernel_rfl) (by kernel_rfl) ?_; (repeat (any_goals (first | go_big_quiet_step (fail) | quiet_step (fail) | (refine wpQuiet_step (fun K hK => ?_); go_simp; split <;> (refine hK _ ?_; clear hK K))))); all_goals (refine wpQuiet_nil ?_; intro _ hw'; obtain ⟨nq, hw''⟩ := hw'; subst hw''))
          go_wp2_with fail
          go_roundw
          case measure => simp [intOf]; omega
          case rel => exact ⟨k + 1, by omega, by go_num, HT, (by first | exact Below.refl _ _ | ((repeat (refine bN _ ?_)); first | exact Below.refl _ _ | go_grown))⟩
        · have HT := Lib.hid (ne_at hcl hdm hcd)
          have hcs : (c != d) = true := by simp [hcd]
          clear hcd
          go_wp2_with fail
          (refine wp_region_quiet_lit (by kernel_rfl) (by kernel_rfl) ?_; (repeat (any_goals (first | go_big_quiet_step (fail) | quiet_step (fail) | (refine wpQuiet_step (fun K hK => ?_); go_simp; split <;> (refine hK _ ?_; clear hK K))))); all_goals (refine wpQuiet_nil ?_; intro _ hw'; obtain ⟨nq, hw''⟩ := hw'; subst hw''))
          go_wp2_with fail
          go_ret
          exact ⟨ret_bool (by simpa using HT.out), (by first | exact Below.refl _ _ | ((repeat (refine bN _ ?_)); first | exact Below.refl _ _ | go_grown))⟩
      · obtain rfl : k = l.length := by omega
        have HT := Lib.hid (show l = m by have := heq.out; rwa [List.take_length, List.take_of_length_le hle2] at this)
        go_wp2_with fail
        go_ret
        exact ⟨ret_bool (by simpa using HT.out), hb⟩
  · have hne : ((l.length : Int) != (m.length : Int)) = true := by simp; omega
    have HLM := Lib.hid hlm
    clear hlm
    go_enter Try.func17, Try.ntmps17
    go_wp2_with fail
    go_ret
    exact ⟨ret_bool (by have := HLM.out; simp; rintro rfl; exact this rfl), Below.refl _ _⟩
end Go.Proofs.Ytkmkedmefhmnaaa
