/- Contacts: whether two are the same; what has a name; names of which there is one. -/
import Derived.Test.YtmgckaokjhfkaaaCoDefs
namespace Go.Proofs.Ytmgckaokjhfkaaa
open Go.RowKit Lift
set_option linter.unusedSimpArgs false
set_option linter.unusedVariables false



set_option maxHeartbeats 1000000 in
set_option maxRecDepth 100000 in
theorem equal_fld (ao bo : Option Addr) (cap cap2 : Nat) (l m : List Fld) (w : World) (hl : SlAt rFld (· < w.heap.size) w ao l) (hm : SlAt rFld (· < w.heap.size) w bo m) (hlen : l.length ≤ 100000) :
    Calls Try.prog 27 #[.slice ao l.length cap, .slice bo m.length cap2] w (BelowPost (.bool (decide (l = m))) w) := by
  by_cases hlm : l.length = m.length
  · have hne : ((l.length : Int) != (m.length : Int)) = false := by simp [hlm]
    have hle1 : l.length ≤ m.length := by omega
    have hle2 : m.length ≤ l.length := by omega
    have HLM := Lib.hid hlm
    clear hlm
    go_enter Try.func27, Try.ntmps27
    go_wp2_with fail
    go_loopw [13] (fun v5 wr => ∃ k : Nat, k ≤ l.length ∧ v5 = .int .i64 k ∧ Hid (l.take k = m.take k) ∧ Below w.heap.size w wr) (fun v5 _ => l.length - (intOf v5).toNat)
    case atStart => exact ⟨0, by omega, rfl, Lib.hid rfl, Below.refl _ _⟩
    case round =>
      obtain ⟨k, hk, rfl, heq, hb⟩ := hrel
      by_cases hkl : k < l.length
      · obtain ⟨c, hcl⟩ := some_at hkl
        obtain ⟨d, hdm⟩ := some_at (show k < m.length by omega)
        obtain ⟨b1, o1, rfl, hs1, hb1, hok1, x0, x1, x2⟩ := fld_get (hl.old hb) hcl
        obtain ⟨b2, o2, rfl, hs2, hb2, hok2, y0, y1, y2⟩ := fld_get (hm.old hb) hdm
        have hkl1 : (k:Int) < (l.length : Int) := by omega
        have hkm : (k:Int) < (m.length : Int) := by omega
        have hlim : k ≤ 100000 := by omega
        by_cases hcd : c = d
        · have HT := Lib.hid (take_same heq.out hcl hdm hcd)
          subst hcd
          go_wp2_with fail
          (refine wp_region_quiet_lit (by kernel_rfl) (by kernel_rfl) ?_; (repeat (any_goals (first | go_big_quiet_step (fail) | quiet_step (fail) | (refine wpQuiet_step (fun K hK => ?_); go_simp; split <;> (refine hK _ ?_; clear hK K))))); all_goals (refine wpQuiet_nil ?_; intro _ hw'; obtain ⟨nq, hw''⟩ := hw'; subst hw''))
          go_wp2_with fail
          go_roundw
          case measure => simp [intOf]; omega
          case rel => exact ⟨k + 1, by omega, by go_num, HT, bN _ hb⟩
        · have HT := Lib.hid (ne_at hcl hdm hcd)
          have hne2 := fld_ne hcd
          clear hcd
          rcases hne2 with e0 | ⟨e0, e1⟩ | ⟨e0, e1, e2⟩
          all_goals
            go_wp2_with fail
            (refine wp_region_quiet_lit (by kernel_rfl) (by kernel_rfl) ?_; (repeat (any_goals (first | go_big_quiet_step (fail) | quiet_step (fail) | (refine wpQuiet_step (fun K hK => ?_); go_simp; split <;> (refine hK _ ?_; clear hK K))))); all_goals (refine wpQuiet_nil ?_; intro _ hw'; obtain ⟨nq, hw''⟩ := hw'; subst hw''))
            go_wp2_with fail
            go_ret
            exact ⟨ret_bool (by simpa using HT.out), bN _ hb⟩
      · obtain rfl : k = l.length := by omega
        have HT := Lib.hid (show l = m by have := heq.out; rwa [List.take_length, List.take_of_length_le hle2] at this)
        go_wp2_with fail
        go_ret
        exact ⟨ret_bool (by simpa using HT.out), hb⟩
  · have hne : ((l.length : Int) != (m.length : Int)) = true := by simp; omega
    have HLM := Lib.hid hlm
    clear hlm
    go_enter Try.func27, Try.ntmps27
    go_wp2_with fail
    go_ret
    exact ⟨ret_bool (by have := HLM.out; simp; rintro rfl; exact this rfl), Below.refl _ _⟩


set_option maxHeartbeats 1000000 in
set_option maxRecDepth 100000 in
theorem same_fld (ao bo : Option Addr) (cap cap2 : Nat) (l m : List Fld) (w : World) (hl : SlAt rFld (· < w.heap.size) w ao l) (hm : SlAt rFld (· < w.heap.size) w bo m) (hlen : l.length ≤ 100000) :
    Calls Try.prog 10 #[.agg #[.slice ao l.length cap], .agg #[.slice bo m.length cap2]] w (BelowPost (.bool (decide (l = m))) w) := by
  have hA : Below w.heap.size w ((w.alloc (.cells #[.slice ao l.length cap] 24)).alloc (.cells #[.slice bo m.length cap2] 24)) := ((Below.refl _ _).alloc (Nat.le_refl _) _).alloc (by simp) _
  by_cases hlm : l.length = m.length
  · have hne : ((l.length : Int) != (m.length : Int)) = false := by simp [hlm]
    have hle1 : l.length ≤ m.length := by omega
    have hle2 : m.length ≤ l.length := by omega
    have HLM := Lib.hid hlm
    clear hlm
    go_enter Try.func10, Try.ntmps10
    go_wp2_with fail
    go_loopw [5] (fun v5 wr => ∃ k : Nat, k ≤ l.length ∧ v5 = .int .i64 k ∧ Hid (l.take k = m.take k) ∧ Below (w.heap.size + 1 + 1) ((w.alloc (.cells #[.slice ao l.length cap] 24)).alloc (.cells #[.slice bo m.length cap2] 24)) wr) (fun v5 _ => l.length - (intOf v5).toNat)
    case atStart => exact ⟨0, by omega, rfl, Lib.hid rfl, Below.refl _ _⟩
    case round =>
      obtain ⟨k, hk, rfl, heq, hb⟩ := hrel
      have hB := hA.trans (hb.mono (by omega))
      obtain ⟨hc, hf⟩ := bcell hb
      have hz := bsize hb
      simp only [World.size_alloc] at hz
      have bx0 : wr.cell? ⟨w.heap.size, 0, none⟩ = some (.slice ao l.length cap) := by rw [hc _ _ (by omega)]; simp [go_sem]
      have by0 : wr.cell? ⟨w.heap.size + 1, 0, none⟩ = some (.slice bo m.length cap2) := by rw [hc _ _ (by omega)]; simp [go_sem]
      clear hc hf
      by_cases hkl : k < l.length
      · obtain ⟨c, hcl⟩ := some_at hkl
        obtain ⟨d, hdm⟩ := some_at (show k < m.length by omega)
        obtain ⟨b1, o1, rfl, hs1, hb1, hok1, x0, x1, x2⟩ := fld_get (hl.old hB) hcl
        obtain ⟨b2, o2, rfl, hs2, hb2, hok2, y0, y1, y2⟩ := fld_get (hm.old hB) hdm
        have hkl1 : (k:Int) < (l.length : Int) := by omega
        have hkm : (k:Int) < (m.length : Int) := by omega
        have hlim : k ≤ 100000 := by omega
        by_cases hcd : c = d
        · have HT := Lib.hid (take_same heq.out hcl hdm hcd)
          subst hcd
          go_wp2_with fail
          (refine wp_region_quiet_lit (by kernel_rfl) (by kernel_rfl) ?_; (repeat (any_goals (first | go_big_quiet_step (fail) | quiet_step (fail) | (refine wpQuiet_step (fun K hK => ?_); go_simp; split <;> (refine hK _ ?_; clear hK K))))); all_goals (refine wpQuiet_nil ?_; intro _ hw'; obtain ⟨nq, hw''⟩ := hw'; subst hw''))
          go_wp2_with fail
          go_roundw
          case measure => simp [intOf]; omega
          case rel => exact ⟨k + 1, by omega, by go_num, HT, bN _ hb⟩
        · have HT := Lib.hid (ne_at hcl hdm hcd)
          have hne2 := fld_ne hcd
          clear hcd
          rcases hne2 with e0 | ⟨e0, e1⟩ | ⟨e0, e1, e2⟩
          all_goals
            go_wp2_with fail
            (refine wp_region_quiet_lit (by kernel_rfl) (by kernel_rfl) ?_; (repeat (any_goals (first | go_big_quiet_step (fail) | quiet_step (fail) | (refine wpQuiet_step (fun K hK => ?_); go_simp; split <;> (refine hK _ ?_; clear hK K))))); all_goals (refine wpQuiet_nil ?_; intro _ hw'; obtain ⟨nq, hw''⟩ := hw'; subst hw''))
            go_wp2_with fail
            go_ret
            exact ⟨ret_bool (by simpa using HT.out), bN _ hB⟩
      · obtain rfl : k = l.length := by omega
        have HT := Lib.hid (show l = m by have := heq.out; rwa [List.take_length, List.take_of_length_le hle2] at this)
        go_wp2_with fail
        go_ret
        exact ⟨ret_bool (by simpa using HT.out), hB⟩
  · have hne : ((l.length : Int) != (m.length : Int)) = true := by simp; omega
    have HLM := Lib.hid hlm
    clear hlm
    go_enter Try.func10, Try.ntmps10
    go_wp2_with fail
    go_ret
    exact ⟨ret_bool (by have := HLM.out; simp; rintro rfl; exact this rfl), hA⟩

set_option maxHeartbeats 1000000 in
set_option maxRecDepth 100000 in
theorem contact_same (ao bo : Option Addr) (cap cap2 : Nat) (l m : List Fld) (w : World) (hl : SlAt rFld (· < w.heap.size) w ao l) (hm : SlAt rFld (· < w.heap.size) w bo m) (hlen : l.length ≤ 100000) :
    Calls Try.prog 18 #[.agg #[.slice ao l.length cap], .agg #[.slice bo m.length cap2]] w (BelowPost (.bool (decide (l = m))) w) := by
  have hA : Below w.heap.size w ((w.alloc (.cells #[.slice ao l.length cap] 24)).alloc (.cells #[.slice bo m.length cap2] 24)) := ((Below.refl _ _).alloc (Nat.le_refl _) _).alloc (by simp) _
  have HE := Lib.hid (equal_fld ao bo cap cap2 l m _ (hl.old hA).here (hm.old hA).here hlen)
  go_enter Try.func18, Try.ntmps18
  go_wp2_with fail
  refine HE.out.mono ?_
  rintro e w3 ⟨rfl, hb3⟩
  go_wp2_with fail
  go_ret
  exact ⟨rfl, chain hA hb3⟩

def isSingle (s : ByteArray) : Bool := s.toList == [66, 68, 65, 89] || s.toList == [70, 78] || s.toList == [78] || s.toList == [79, 82, 71] || s.toList == [82, 69, 86] || s.toList == [84, 73, 84, 76, 69]
theorem isSingle_eq (s : ByteArray) : isSingle s = (s.toList == [66, 68, 65, 89] || s.toList == [70, 78] || s.toList == [78] || s.toList == [79, 82, 71] || s.toList == [82, 69, 86] || s.toList == [84, 73, 84, 76, 69]) := rfl
set_option maxHeartbeats 1000000 in
set_option maxRecDepth 100000 in
theorem single_any (s : ByteArray) (w : World) : Calls Try.prog 8 #[.string s] w (BelowPost (.bool (isSingle s)) w) := by
  go_enter Try.func8, Try.ntmps8
  go_wp2_with fail
  all_goals
    go_ret
    exact ⟨ret_bool (by rw [isSingle_eq] <;> simp_all), Below.refl _ _⟩
set_option maxHeartbeats 1000000 in
set_option maxRecDepth 100000 in
theorem single_ref (s : ByteArray) (w : World) : Calls Try.prog 9 #[.string s] w (BelowPost (.bool (isSingle s)) w) := by
  go_enter Try.func9, Try.ntmps9
  go_wp2_with fail
  all_goals
    go_ret
    exact ⟨ret_bool (by rw [isSingle_eq] <;> simp_all), Below.refl _ _⟩
end Go.Proofs.Ytmgckaokjhfkaaa
