/- Pending. -/
import Derived.Test.YtdkndcmjcmeddaaAu6
namespace Go.Proofs.Ytdkndcmjcmeddaa
open Go.RowKit Lift
set_option linter.unusedSimpArgs false
set_option linter.unusedVariables false

def pendB (s : Sd) : Bool := decide (0 < (s.g.length : Int)) || decide (0 < (s.p.length : Int)) || s.e.any (fun c => decide (0 < c.2.1)) || s.r.any isDue
set_option maxHeartbeats 4000000 in
set_option maxRecDepth 100000 in
theorem pending_any (s : Sd) (w : World) (hs : SdOk w.heap.size w s) : Calls Try.prog 31 #[sdV s] w (BelowPost (.bool (pendB s)) w) := by
  obtain ⟨W0, hW0⟩ : ∃ W0, w.alloc (.cells #[.slice s.ea s.e.length s.ec, .slice s.ga s.g.length s.gc, .slice s.pa s.p.length s.pc, .slice s.ra s.r.length s.rc] 26) = W0 := ⟨_, rfl⟩
  have hb0 : Below w.heap.size w W0 := by rw [← hW0]; exact (Below.refl _ _).alloc (Nat.le_refl _) _
  have hsz : W0.heap.size = w.heap.size + 1 := by rw [← hW0]; simp
  have hbx : SdBox W0 w.heap.size s := by rw [← hW0]; exact ⟨by simp [go_sem], by simp [go_sem], by simp [go_sem], by simp [go_sem]⟩
  have hs0 : SdOk W0.heap.size W0 s := (hs.old hb0).up (by omega)
  have HX := Lib.hid (show ∀ w', Below W0.heap.size W0 w' → SdBox w' w.heap.size s from fun w' h => hbx.old h (by omega))
  have H1 := Lib.hid (show ∀ w', Below W0.heap.size W0 w' → Calls Try.prog 21 #[.slice s.ea s.e.length s.ec, .func (.func 39) #[] #[]] w' (FromPost W0.heap.size W0 (.bool (s.e.any (fun c => decide (0 < c.2.1))))) from fun w' h =>
    from_post h (contains_ent0 _ _ _ _ _ w' (hs0.old h).e.here (by have := hs.el; omega) (pend1 _ _)))
  have H2 := Lib.hid (show ∀ w', Below W0.heap.size W0 w' → Calls Try.prog 27 #[.slice s.ra s.r.length s.rc, .func (.func 40) #[] #[]] w' (FromPost W0.heap.size W0 (.bool (s.r.any isDue))) from fun w' h =>
    from_post h (contains_rec0 _ _ _ _ _ w' (hs0.old h).r.here (by have := hs.rl; omega) (pend2 _ _)))
  have hb := Below.refl W0.heap.size W0
  have hgl := hs.gl
  have hpl := hs.pl
  unfold pendB
  generalize s.e.any (fun c => decide (0 < c.2.1)) = b3 at *
  generalize s.r.any isDue = b4 at *
  obtain ⟨x0, x1, x2, x3⟩ := hbx
  have HX2 := Lib.hid (show ∀ w', Below W0.heap.size W0 w' → w'.cell? ⟨w.heap.size, 0, none⟩ = some (.slice s.ea s.e.length s.ec) ∧ w'.cell? ⟨w.heap.size, 1, none⟩ = some (.slice s.ga s.g.length s.gc) ∧ w'.cell? ⟨w.heap.size, 2, none⟩ = some (.slice s.pa s.p.length s.pc) ∧ w'.cell? ⟨w.heap.size, 3, none⟩ = some (.slice s.ra s.r.length s.rc) from HX.out)
  have HB0 := Lib.hid hb0
  clear hs hs0 hsz hb0 HX
  unfold sdV
  generalize s.g.length = gn at *
  generalize s.p.length = pn at *
  rcases Nat.eq_zero_or_pos gn with rfl | h1
  · rcases Nat.eq_zero_or_pos pn with rfl | h2
    · cases b3 with
      | true =>
        go_enter Try.func31, Try.ntmps31
        go_wp2_with (first
          | ((with_reducible refine (H1.out _ hb).mono ?_); rintro e w3 ⟨rfl, hb⟩; obtain ⟨x0, x1, x2, x3⟩ := HX2.out _ hb)
          | ((with_reducible refine (H2.out _ hb).mono ?_); rintro e w3 ⟨rfl, hb⟩; obtain ⟨x0, x1, x2, x3⟩ := HX2.out _ hb))
        go_ret
        exact ⟨ret_bool (by simp), chain HB0.out hb⟩
      | false =>
        go_enter Try.func31, Try.ntmps31
        go_wp2_with (first
          | ((with_reducible refine (H1.out _ hb).mono ?_); rintro e w3 ⟨rfl, hb⟩; obtain ⟨x0, x1, x2, x3⟩ := HX2.out _ hb)
          | ((with_reducible refine (H2.out _ hb).mono ?_); rintro e w3 ⟨rfl, hb⟩; obtain ⟨x0, x1, x2, x3⟩ := HX2.out _ hb))
        go_ret
        exact ⟨ret_bool (by simp), chain HB0.out hb⟩
    · go_enter Try.func31, Try.ntmps31
      go_wp2_with fail
      go_ret
      exact ⟨ret_bool (by simp [h2]), chain HB0.out hb⟩
  · go_enter Try.func31, Try.ntmps31
    go_wp2_with fail
    go_ret
    exact ⟨ret_bool (by simp [h1]), chain HB0.out hb⟩
end Go.Proofs.Ytdkndcmjcmeddaa
