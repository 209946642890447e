/- The document's Due and Pending. -/
import Derived.Test.YtdkndcmjcmeddaaAu11
namespace Go.Proofs.Ytdkndcmjcmeddaa
open Go.RowKit Lift
set_option linter.unusedSimpArgs false
set_option linter.unusedVariables false
theorem due_ref (c : Rec) (w : World) : Calls Try.prog 42 #[encRec c] w (BelowPost (.int .i64 (dueI c)) w) := by
  unfold encRec dueI
  cases hv : c.2.1 with
  | true =>
    obtain ⟨E, hE⟩ : ∃ E, (if true = true then (if c.2.2.2.2.1 = 0 then 1 else if c.2.2.1 ≠ c.2.2.2.2.2.1 then 2 else 0) else if 0 < c.2.2.2.2.1 then 3 else 0 : Int) = E := ⟨_, rfl⟩
    rw [hE]
    have HE := Lib.hid hE
    clear hE
    go_enter Try.func42, Try.ntmps42
    go_wp2_with fail
    all_goals (go_ret; refine ⟨ret_int ?_, (Below.refl _ _).alloc (Nat.le_refl _) _⟩; rw [← HE.out]; clear HE; simp_all)
  | false =>
    obtain ⟨E, hE⟩ : ∃ E, (if false = true then (if c.2.2.2.2.1 = 0 then 1 else if c.2.2.1 ≠ c.2.2.2.2.2.1 then 2 else 0) else if 0 < c.2.2.2.2.1 then 3 else 0 : Int) = E := ⟨_, rfl⟩
    rw [hE]
    have HE := Lib.hid hE
    clear hE
    go_enter Try.func42, Try.ntmps42
    go_wp2_with fail
    all_goals (go_ret; refine ⟨ret_int ?_, (Below.refl _ _).alloc (Nat.le_refl _) _⟩; rw [← HE.out]; clear HE; simp_all)
def pendR (s : Sd) : Bool := s.e.any (fun c => decide (0 < c.2.1)) || (s.r.any isDue || (decide (0 < (s.g.length : Int)) || decide (0 < (s.p.length : Int))))
set_option maxHeartbeats 8000000 in
set_option maxRecDepth 100000 in
theorem pending_ref (s : Sd) (w : World) (hs : SdOk w.heap.size w s) : Calls Try.prog 33 #[sdV s] w (BelowPost (.bool (pendR s)) w) := by
  obtain ⟨W0, hW0⟩ : ∃ W0, w.alloc (.cells #[.slice s.ea s.e.length s.ec, .slice s.ga s.g.length s.gc, .slice s.pa s.p.length s.pc, .slice s.ra s.r.length s.rc] 26) = W0 := ⟨_, rfl⟩
  have hb0 : Below w.heap.size w W0 := by rw [← hW0]; exact (Below.refl _ _).alloc (Nat.le_refl _) _
  have hsz : W0.heap.size = w.heap.size + 1 := by rw [← hW0]; simp
  have hbx : SdBox W0 w.heap.size s := by rw [← hW0]; exact ⟨by simp [go_sem], by simp [go_sem], by simp [go_sem], by simp [go_sem]⟩
  have hs0 : SdOk W0.heap.size W0 s := (hs.old hb0).up (by omega)
  have HR0 := Lib.hid (show RBox w.heap.size s W0 from ⟨by omega, hs0, hbx⟩)
  have hel := hs.el
  have hrl := hs.rl
  have HT0 := Lib.hid hb0
  obtain ⟨E, hE⟩ : ∃ E, pendR s = E := ⟨_, rfl⟩
  rw [hE]
  unfold pendR at hE
  obtain ⟨b1, hb1⟩ : ∃ b, s.e.any (fun c => decide (0 < c.2.1)) = b := ⟨_, rfl⟩
  obtain ⟨b2, hb2⟩ : ∃ b, s.r.any isDue = b := ⟨_, rfl⟩
  rw [hb1, hb2] at hE
  have HE := Lib.hid hE; have HB1 := Lib.hid hb1; have HB2 := Lib.hid hb2
  clear hs hsz hb0 hs0 hbx hE hb1 hb2
  unfold sdV
  have hst := Below.refl W0.heap.size W0
  go_enter Try.func33, Try.ntmps33
  go_wp2_with fail
  go_loopw [3] (fun vi wr => ∃ k : Nat, k ≤ s.e.length ∧ vi = .int .i64 k ∧ Hid (s.e.any (fun c => decide (0 < c.2.1)) = (s.e.drop k).any (fun c => decide (0 < c.2.1))) ∧ Below W0.heap.size W0 wr) (fun vi _ => s.e.length - (intOf vi).toNat)
  case atStart => exact ⟨0, by omega, rfl, Lib.hid rfl, hst⟩
  case round =>
    clear hst
    obtain ⟨k, hk, rfl, HK, hbr⟩ := hrel
    have HRr := Lib.hid (HR0.out.next hbr)
    obtain ⟨x0, x1, x2, x3⟩ := HRr.out.bx
    have hlt := HRr.out.lt
    by_cases hkl : k < s.e.length
    · obtain ⟨c, hcl⟩ := some_at hkl
      obtain ⟨bb, oo, hao, hs1, hb1, hok, y0, y1, y2, y3⟩ := ent_get HRr.out.ok.e hcl
      rw [hao] at x0
      have hkl2 : (k : Int) < (s.e.length : Int) := by omega
      have HK2 := Lib.hid (HK.out.trans (show (s.e.drop k).any (fun c => decide (0 < c.2.1)) = (decide (0 < c.2.1) || (s.e.drop (k + 1)).any (fun c => decide (0 < c.2.1))) by rw [drop_at hcl, List.any_cons]))
      obtain ⟨n, hn⟩ : ∃ n, c.2.1 = n := ⟨_, rfl⟩
      rw [hn] at y1 HK2
      clear hn hcl hok HK hao y0 y2 y3
      by_cases hn0 : 0 < n
      · go_wp2_with fail
        go_ret
        exact ⟨ret_bool (by rw [← HE.out, ← HB1.out, HK2.out]; simp [hn0]), chain HT0.out hbr⟩
      · have HK3 := Lib.hid (HK2.out.trans (by rw [show decide (0 < n) = false by simpa using hn0]))
        clear HK2
        go_wp2_with fail
        go_roundw
        case measure => simp [intOf]; omega
        case rel => exact ⟨k + 1, by omega, by go_num, HK3, hbr⟩
    · obtain rfl : k = s.e.length := by omega
      have e1 : b1 = false := by rw [← HB1.out, HK.out, List.drop_eq_nil_of_le (by simp)]; rfl
      subst e1
      go_wp2_with fail
      go_loopw [4] (fun vi wr => ∃ k : Nat, k ≤ s.r.length ∧ vi = .int .i64 k ∧ Hid (s.r.any isDue = (s.r.drop k).any isDue) ∧ Below W0.heap.size W0 wr) (fun vi _ => s.r.length - (intOf vi).toNat)
      case atStart => exact ⟨0, by omega, rfl, Lib.hid rfl, hbr⟩
      case round =>
        clear hbr HRr x0 x1 x2 x3 hlt HK
        obtain ⟨k, hk, rfl, HK, hbr⟩ := hrel
        have HRr := Lib.hid (HR0.out.next hbr)
        obtain ⟨x0, x1, x2, x3⟩ := HRr.out.bx
        have hlt := HRr.out.lt
        by_cases hkl : k < s.r.length
        · obtain ⟨c, hcl⟩ := some_at hkl
          obtain ⟨bb, oo, hao, hs1, hb1, hok, y0, y1, y2, y3, y4, y5, y6, y7, y8⟩ := rec_get HRr.out.ok.r hcl
          rw [hao] at x3
          have hkl2 : (k : Int) < (s.r.length : Int) := by omega
          have HK2 := Lib.hid (HK.out.trans (show (s.r.drop k).any isDue = (isDue c || (s.r.drop (k + 1)).any isDue) by rw [drop_at hcl, List.any_cons]))
          have HQ := Lib.hid (due_ref c wr)
          obtain ⟨n, hn⟩ : ∃ n, dueI c = n := ⟨_, rfl⟩
          have HD := Lib.hid (show isDue c = decide (n ≠ 0) by unfold isDue; rw [hn])
          rw [hn] at HQ
          unfold encRec at HQ
          clear hn hcl hok HK hao
          by_cases hn0 : n = 0
          · have HK3 := Lib.hid (HK2.out.trans (by rw [HD.out, hn0]))
            clear HK2
            go_wp2_with (first | ((with_reducible refine HQ.out.mono ?_); rintro e w3 ⟨rfl, hb3⟩))
            go_roundw
            case measure => simp [intOf]; omega
            case rel => exact ⟨k + 1, by omega, by go_num, Lib.hid (by simpa using HK3.out), chain hbr hb3⟩
          · go_wp2_with (first | ((with_reducible refine HQ.out.mono ?_); rintro e w3 ⟨rfl, hb3⟩))
            go_ret
            exact ⟨ret_bool (by rw [← HE.out, ← HB2.out, HK2.out, HD.out]; simp [hn0]), chain HT0.out (chain hbr hb3)⟩
        · obtain rfl : k = s.r.length := by omega
          have e2 : b2 = false := by rw [← HB2.out, HK.out, List.drop_eq_nil_of_le (by simp)]; rfl
          subst e2
          have hE := HE.out
          simp only [Bool.false_or] at hE
          clear HE HB1 HB2 HK
          have HE := Lib.hid hE
          clear hE
          generalize s.g.length = gn at *
          generalize s.p.length = pn at *
          rcases Nat.eq_zero_or_pos gn with rfl | h1
          · go_wp2_with fail
            go_ret
            exact ⟨ret_bool (by rw [← HE.out]; simp), chain HT0.out hbr⟩
          · go_wp2_with fail
            go_ret
            exact ⟨ret_bool (by rw [← HE.out]; simp [h1]), chain HT0.out hbr⟩
end Go.Proofs.Ytdkndcmjcmeddaa
