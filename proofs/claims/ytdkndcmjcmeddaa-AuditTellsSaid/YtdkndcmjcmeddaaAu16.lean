/- Great sides. -/
import Derived.Test.YtdkndcmjcmeddaaAu15
namespace Go.Proofs.Ytdkndcmjcmeddaa
open Go.RowKit Lift
set_option linter.unusedSimpArgs false
set_option linter.unusedVariables false

def GreatPost (w : World) (e : Ending) (w' : World) : Prop := ∃ b, e = .returned (.bool b) ∧ Below w.heap.size w w'
/-- One list is too long. -/
theorem great_yes (s : Sd) (w : World) (h : 100 < s.e.length ∨ 100 < s.g.length ∨ 100 < s.p.length ∨ 150 < s.r.length) (he : s.e.length ≤ maxLen) (hg : s.g.length ≤ maxLen) (hp : s.p.length ≤ maxLen) (hr : s.r.length ≤ maxLen) : Calls Try.prog 4 #[sdV s] w (BelowPost (.bool true) w) := by
  have hA : Below w.heap.size w (w.alloc (.cells #[.slice s.ea s.e.length s.ec, .slice s.ga s.g.length s.gc, .slice s.pa s.p.length s.pc, .slice s.ra s.r.length s.rc] 26)) := (Below.refl _ _).alloc (Nat.le_refl _) _
  unfold sdV
  generalize s.e.length = n1 at *
  generalize s.g.length = n2 at *
  generalize s.p.length = n3 at *
  generalize s.r.length = n4 at *
  by_cases h1 : 100 < n1
  · have h1' : (100 : Int) < (n1 : Int) := by omega
    clear h
    go_enter Try.func4, Try.ntmps4
    go_wp2_with fail
    go_ret
    exact ⟨rfl, hA⟩
  · have h1' : ¬ (100 : Int) < (n1 : Int) := by omega
    by_cases h2 : 100 < n2
    · have h2' : (100 : Int) < (n2 : Int) := by omega
      clear h
      go_enter Try.func4, Try.ntmps4
      go_wp2_with fail
      go_ret
      exact ⟨rfl, hA⟩
    · have h2' : ¬ (100 : Int) < (n2 : Int) := by omega
      by_cases h3 : 100 < n3
      · have h3' : (100 : Int) < (n3 : Int) := by omega
        clear h
        go_enter Try.func4, Try.ntmps4
        go_wp2_with fail
        go_ret
        exact ⟨rfl, hA⟩
      · have h3' : ¬ (100 : Int) < (n3 : Int) := by omega
        have h4' : (150 : Int) < (n4 : Int) := by omega
        clear h
        go_enter Try.func4, Try.ntmps4
        go_wp2_with fail
        go_ret
        exact ⟨rfl, hA⟩
set_option maxHeartbeats 8000000 in
set_option maxRecDepth 100000 in
theorem great_no (s : Sd) (w : World) (hs : SdOk w.heap.size w s) (h1 : s.e.length ≤ 100) (h2 : s.g.length ≤ 100) (h3 : s.p.length ≤ 100) (h4 : s.r.length ≤ 150) : Calls Try.prog 4 #[sdV s] w (GreatPost w) := by
  obtain ⟨W0, hW0⟩ : ∃ W0, w.alloc (.cells #[.slice s.ea s.e.length s.ec, .slice s.ga s.g.length s.gc, .slice s.pa s.p.length s.pc, .slice s.ra s.r.length s.rc] 26) = W0 := ⟨_, rfl⟩
  have hb0 : Below w.heap.size w W0 := by rw [← hW0]; exact (Below.refl _ _).alloc (Nat.le_refl _) _
  have hsz : W0.heap.size = w.heap.size + 1 := by rw [← hW0]; simp
  have hbx : SdBox W0 w.heap.size s := by rw [← hW0]; exact ⟨by simp [go_sem], by simp [go_sem], by simp [go_sem], by simp [go_sem]⟩
  have hs0 : SdOk W0.heap.size W0 s := (hs.old hb0).up (by omega)
  have HR0 := Lib.hid (show RBox w.heap.size s W0 from ⟨by omega, hs0, hbx⟩)
  have HT0 := Lib.hid hb0
  have h1' : decide ((100 : Int) < (s.e.length : Int)) = false := by simp; omega
  have h2' : decide ((100 : Int) < (s.g.length : Int)) = false := by simp; omega
  have h3' : decide ((100 : Int) < (s.p.length : Int)) = false := by simp; omega
  have h4' : decide ((150 : Int) < (s.r.length : Int)) = false := by simp; omega
  clear hs hsz hb0 hs0 hbx
  unfold sdV
  have hst := Below.refl W0.heap.size W0
  obtain ⟨x0, x1, x2, x3⟩ := HR0.out.bx
  have hlt := HR0.out.lt
  go_enter Try.func4, Try.ntmps4
  go_wp2_with fail
  go_loopw [3, 4] (fun va vi wr => ∃ k m : Nat, k ≤ s.e.length ∧ vi = .int .i64 k ∧ va = .int .i64 m ∧ m ≤ 40000 ∧ Below W0.heap.size W0 wr) (fun _ vi _ => s.e.length - (intOf vi).toNat)
  case atStart => exact ⟨0, 0, by omega, rfl, rfl, by omega, hst⟩
  case round =>
    clear hst x0 x1 x2 x3 hlt
    obtain ⟨k, m, hk, rfl, rfl, hm, hbr⟩ := hrel
    have HRr := Lib.hid (HR0.out.next hbr)
    obtain ⟨x0, x1, x2, x3⟩ := HRr.out.bx
    have hlt := HRr.out.lt
    by_cases hkl : k < s.e.length
    · obtain ⟨c, hcl⟩ := some_at hkl
      obtain ⟨bb, oo, hao, hs1, hb1, hok, y0, y1, y2, y3⟩ := ent_get HRr.out.ok.e hcl
      rw [hao] at x0
      have hkl2 : (k : Int) < (s.e.length : Int) := by omega
      have ht : c.2.2.2.size ≤ 140737488351232 := hok.2.2.2
      obtain ⟨t, hct⟩ : ∃ t, c.2.2.2 = t := ⟨_, rfl⟩
      rw [hct] at y3 ht
      clear hct hok hcl hao y0 y1 y2
      by_cases hg : 40000 < m + t.size
      · have hg' : (40000 : Int) < (m : Int) + (t.size : Int) := by omega
        go_wp2_with fail
        go_ret
        exact ⟨_, rfl, chain HT0.out hbr⟩
      · have hg' : ¬ (40000 : Int) < (m : Int) + (t.size : Int) := by omega
        go_wp2_with fail
        go_roundw
        case measure => simp [intOf]; omega
        case rel => exact ⟨k + 1, m + t.size, by omega, by go_num, by go_num, by omega, hbr⟩
    · obtain rfl : k = s.e.length := by omega
      go_wp2_with fail
      go_loopw [3, 5] (fun va vi wr => ∃ k m : Nat, k ≤ s.r.length ∧ vi = .int .i64 k ∧ va = .int .i64 m ∧ m ≤ 60000 ∧ Below W0.heap.size W0 wr) (fun _ vi _ => s.r.length - (intOf vi).toNat)
      case atStart => exact ⟨0, m, by omega, rfl, rfl, by omega, hbr⟩
      case round =>
        clear hbr HRr x0 x1 x2 x3 hlt
        obtain ⟨k, m, hk, rfl, rfl, hm, hbr⟩ := hrel
        have HRr := Lib.hid (HR0.out.next hbr)
        obtain ⟨x0, x1, x2, x3⟩ := HRr.out.bx
        have hlt := HRr.out.lt
        by_cases hkl : k < s.r.length
        · obtain ⟨c, hcl⟩ := some_at hkl
          obtain ⟨bb, oo, hao, hs1, hb1, hok, y0, y1, y2, y3, y4, y5, y6, y7, y8⟩ := rec_get HRr.out.ok.r hcl
          rw [hao] at x3
          have hkl2 : (k : Int) < (s.r.length : Int) := by omega
          have ht : c.2.2.2.1.size ≤ 140737488351232 := hok.2.2.2.1
          have hu : c.2.2.2.2.2.2.1.size ≤ 140737488351232 := hok.2.2.2.2.2.2.1
          have hv : c.2.2.2.2.2.2.2.2.size ≤ 140737488351232 := hok.2.2.2.2.2.2.2.2
          obtain ⟨t, hct⟩ : ∃ t, c.2.2.2.1 = t := ⟨_, rfl⟩
          obtain ⟨u, hcu⟩ : ∃ t, c.2.2.2.2.2.2.1 = t := ⟨_, rfl⟩
          obtain ⟨v, hcv⟩ : ∃ t, c.2.2.2.2.2.2.2.2 = t := ⟨_, rfl⟩
          rw [hct] at y3 ht
          rw [hcu] at y6 hu
          rw [hcv] at y8 hv
          clear hct hcu hcv hok hcl hao y0 y1 y2 y4 y5 y7
          obtain ⟨T, hT⟩ : ∃ T : Nat, m + t.size + u.size + v.size = T := ⟨_, rfl⟩
          have e1 : IntKind.i64.wrap ((m : Int) + (t.size : Int)) = (m : Int) + (t.size : Int) := IntWalk.i64_in _ (by omega)
          have e2 : IntKind.i64.wrap ((m : Int) + (t.size : Int) + (u.size : Int)) = (m : Int) + (t.size : Int) + (u.size : Int) := IntWalk.i64_in _ (by omega)
          have e3 : IntKind.i64.wrap ((m : Int) + (t.size : Int) + (u.size : Int) + (v.size : Int)) = (T : Int) := by rw [IntWalk.i64_in _ (by omega)]; omega
          clear ht hu hv hT
          by_cases hg : 60000 < T
          · have hg' : (60000 : Int) < (T : Int) := by omega
            go_wp2_with fail
            (refine wp_region_still_lit (by kernel_rfl) (by kernel_rfl) ?_; refine StillH.out ?_; (repeat (refine still_h (fun K hK => ?_); go_simp; refine hK _ ?_; clear hK K)); refine still_end ?_)
            go_wp2_with fail
            go_ret
            exact ⟨_, rfl, chain HT0.out hbr.drew⟩
          · have hg' : ¬ (60000 : Int) < (T : Int) := by omega
            go_wp2_with fail
            (refine wp_region_still_lit (by kernel_rfl) (by kernel_rfl) ?_; refine StillH.out ?_; (repeat (refine still_h (fun K hK => ?_); go_simp; refine hK _ ?_; clear hK K)); refine still_end ?_)
            go_wp2_with fail
            go_roundw
            case measure => simp [intOf]; omega
            case rel => exact ⟨k + 1, T, by omega, by go_num, rfl, by omega, hbr.drew⟩
        · obtain rfl : k = s.r.length := by omega
          go_wp2_with fail
          go_ret
          exact ⟨_, rfl, chain HT0.out hbr⟩
end Go.Proofs.Ytdkndcmjcmeddaa
