/- Sound. -/
import Derived.Test.YtdkndcmjcmeddaaAu3
namespace Go.Proofs.Ytdkndcmjcmeddaa
open Go.RowKit Lift
set_option linter.unusedSimpArgs false
set_option linter.unusedVariables false

def soundE (s : Sd) : Int :=
  if risL 0 (s.e.map (·.1)) then if risL 0 (s.g.map (·.1)) then if risL 0 (s.p.map (·.1)) then if risL 0 (s.r.map (·.1)) then
    if s.e.any (fun c => oneB s.g c.1) then 11 else if twiceB s.r then 11 else
    if s.p.any (fun c => !oneB s.e c.1 && !oneB s.g c.1) then 10 else
    if s.e.any (fun c => emptyB c.2.2.2) then 3 else if s.r.any (fun c => c.2.1 != !emptyB c.2.2.2.1) then 3 else 0
    else 15 else 15 else 15 else 15
/-- One value, all that was there below a block as it was. -/
def FromPost (B : Nat) (w0 : World) (v : Value) (e : Ending) (w' : World) : Prop := e = .returned v ∧ Below B w0 w'
theorem from_post {w0 w1 : World} {f : FuncId} {args : Array Value} {v : Value} (hb : Below w0.heap.size w0 w1) (h : Calls Try.prog f args w1 (BelowPost v w1)) : Calls Try.prog f args w1 (FromPost w0.heap.size w0 v) :=
  h.mono fun _ _ ⟨a, b⟩ => ⟨a, chain hb b⟩
set_option maxHeartbeats 8000000 in
set_option maxRecDepth 100000 in
theorem sound_any (s : Sd) (w : World) (hs : SdOk w.heap.size w s) : Calls Try.prog 7 #[sdV s] w (BelowPost (.int .i64 (soundE s)) w) := by
  obtain ⟨W0, hW0⟩ : ∃ W0, w.alloc (.cells #[.slice s.ea s.e.length s.ec, .slice s.ga s.g.length s.gc, .slice s.pa s.p.length s.pc, .slice s.ra s.r.length s.rc] 26) = W0 := ⟨_, rfl⟩
  have hb0 : Below w.heap.size w W0 := by rw [← hW0]; exact (Below.refl _ _).alloc (Nat.le_refl _) _
  have hsz : W0.heap.size = w.heap.size + 1 := by rw [← hW0]; simp
  have hbx : SdBox W0 w.heap.size s := by rw [← hW0]; exact ⟨by simp [go_sem], by simp [go_sem], by simp [go_sem], by simp [go_sem]⟩
  have hs0 : SdOk W0.heap.size W0 s := (hs.old hb0).up (by omega)
  have HX := Lib.hid (show ∀ w', Below W0.heap.size W0 w' → SdBox w' w.heap.size s from fun w' h => hbx.old h (by omega))
  have H1 := Lib.hid (show ∀ w', Below W0.heap.size W0 w' → Calls Try.prog 15 #[.slice s.ea s.e.length s.ec, .func (.func 16) #[] #[]] w' (FromPost W0.heap.size W0 (.bool (risL 0 (s.e.map (·.1))))) from fun w' h =>
    from_post h (rising_ent _ _ _ _ _ w' (hs0.old h).e.here (by have := hs.el; omega) (num_ent _)))
  have H2 := Lib.hid (show ∀ w', Below W0.heap.size W0 w' → Calls Try.prog 15 #[.slice s.ga s.g.length s.gc, .func (.func 16) #[] #[]] w' (FromPost W0.heap.size W0 (.bool (risL 0 (s.g.map (·.1))))) from fun w' h =>
    from_post h (rising_ent _ _ _ _ _ w' (hs0.old h).g.here (by have := hs.gl; omega) (num_ent _)))
  have H3 := Lib.hid (show ∀ w', Below W0.heap.size W0 w' → Calls Try.prog 17 #[.slice s.pa s.p.length s.pc, .func (.func 18) #[] #[]] w' (FromPost W0.heap.size W0 (.bool (risL 0 (s.p.map (·.1))))) from fun w' h =>
    from_post h (rising_pai _ _ _ _ _ w' (hs0.old h).p.here (by have := hs.pl; omega) (num_pai _)))
  have H4 := Lib.hid (show ∀ w', Below W0.heap.size W0 w' → Calls Try.prog 19 #[.slice s.ra s.r.length s.rc, .func (.func 20) #[] #[]] w' (FromPost W0.heap.size W0 (.bool (risL 0 (s.r.map (·.1))))) from fun w' h =>
    from_post h (rising_rec _ _ _ _ _ w' (hs0.old h).r.here (by have := hs.rl; omega) (num_rec _)))
  have H5 := Lib.hid (show ∀ w', Below W0.heap.size W0 w' → Calls Try.prog 21 #[.slice s.ea s.e.length s.ec, .func (.func 22) #[] #[.pointer (some ⟨w.heap.size, 0, none⟩)]] w' (FromPost W0.heap.size W0 (.bool (s.e.any (fun c => oneB s.g c.1)))) from fun w' h =>
    from_post h (contains_ent1 _ _ _ _ _ _ w' (hs0.old h).e.here (by have := hs.el; omega) (pred3 _ s _ _ (by have := h.size; omega) (Nat.le_refl _) (hbx.old h (by omega)) ((hs0.old h).up h.size))))
  have H6 := Lib.hid (show ∀ w', Below W0.heap.size W0 w' → Calls Try.prog 23 #[.slice s.ra s.r.length s.rc] w' (FromPost W0.heap.size W0 (.bool (twiceB s.r))) from fun w' h =>
    from_post h (twice_any _ _ _ w' (hs0.old h).r.here hs.rl))
  have H7 := Lib.hid (show ∀ w', Below W0.heap.size W0 w' → Calls Try.prog 24 #[.slice s.pa s.p.length s.pc, .func (.func 25) #[] #[.pointer (some ⟨w.heap.size, 0, none⟩)]] w' (FromPost W0.heap.size W0 (.bool (s.p.any (fun c => !oneB s.e c.1 && !oneB s.g c.1)))) from fun w' h =>
    from_post h (contains_pai1 _ _ _ _ _ _ w' (hs0.old h).p.here (by have := hs.pl; omega) (pred4 _ s _ _ (by have := h.size; omega) (Nat.le_refl _) (hbx.old h (by omega)) ((hs0.old h).up h.size))))
  have H8 := Lib.hid (show ∀ w', Below W0.heap.size W0 w' → Calls Try.prog 21 #[.slice s.ea s.e.length s.ec, .func (.func 26) #[] #[]] w' (FromPost W0.heap.size W0 (.bool (s.e.any (fun c => emptyB c.2.2.2)))) from fun w' h =>
    from_post h (contains_ent0 _ _ _ _ _ w' (hs0.old h).e.here (by have := hs.el; omega) (pred5 _ _)))
  have H9 := Lib.hid (show ∀ w', Below W0.heap.size W0 w' → Calls Try.prog 27 #[.slice s.ra s.r.length s.rc, .func (.func 28) #[] #[]] w' (FromPost W0.heap.size W0 (.bool (s.r.any (fun c => c.2.1 != !emptyB c.2.2.2.1)))) from fun w' h =>
    from_post h (contains_rec0 _ _ _ _ _ w' (hs0.old h).r.here (by have := hs.rl; omega) (pred6 _ _)))
  have hb := Below.refl W0.heap.size W0
  unfold soundE
  generalize risL 0 (s.e.map (·.1)) = b1 at *
  generalize risL 0 (s.g.map (·.1)) = b2 at *
  generalize risL 0 (s.p.map (·.1)) = b3 at *
  generalize risL 0 (s.r.map (·.1)) = b4 at *
  generalize s.e.any (fun c => oneB s.g c.1) = b5 at *
  generalize twiceB s.r = b6 at *
  generalize s.p.any (fun c => !oneB s.e c.1 && !oneB s.g c.1) = b7 at *
  generalize s.e.any (fun c => emptyB c.2.2.2) = b8 at *
  generalize s.r.any (fun c => c.2.1 != !emptyB c.2.2.2.1) = b9 at *
  obtain ⟨x0, x1, x2, x3⟩ := hbx
  have HB0 := Lib.hid hb0
  clear hs hs0 hsz hb0
  generalize hE : (if b1 = true then _ else _ : Int) = E
  have HE := Lib.hid hE
  clear hE
  unfold sdV
  go_enter Try.func7, Try.ntmps7
  go_wp2_with (first
    | ((with_reducible refine (H1.out _ hb).mono ?_); rintro e w3 ⟨rfl, hb⟩; obtain ⟨x0, x1, x2, x3⟩ := HX.out _ hb)
    | ((with_reducible refine (H2.out _ hb).mono ?_); rintro e w3 ⟨rfl, hb⟩; obtain ⟨x0, x1, x2, x3⟩ := HX.out _ hb)
    | ((with_reducible refine (H3.out _ hb).mono ?_); rintro e w3 ⟨rfl, hb⟩; obtain ⟨x0, x1, x2, x3⟩ := HX.out _ hb)
    | ((with_reducible refine (H4.out _ hb).mono ?_); rintro e w3 ⟨rfl, hb⟩; obtain ⟨x0, x1, x2, x3⟩ := HX.out _ hb)
    | ((with_reducible refine (H5.out _ hb).mono ?_); rintro e w3 ⟨rfl, hb⟩; obtain ⟨x0, x1, x2, x3⟩ := HX.out _ hb)
    | ((with_reducible refine (H6.out _ hb).mono ?_); rintro e w3 ⟨rfl, hb⟩; obtain ⟨x0, x1, x2, x3⟩ := HX.out _ hb)
    | ((with_reducible refine (H7.out _ hb).mono ?_); rintro e w3 ⟨rfl, hb⟩; obtain ⟨x0, x1, x2, x3⟩ := HX.out _ hb)
    | ((with_reducible refine (H8.out _ hb).mono ?_); rintro e w3 ⟨rfl, hb⟩; obtain ⟨x0, x1, x2, x3⟩ := HX.out _ hb)
    | ((with_reducible refine (H9.out _ hb).mono ?_); rintro e w3 ⟨rfl, hb⟩; obtain ⟨x0, x1, x2, x3⟩ := HX.out _ hb))
  all_goals (try clear HX H1 H2 H3 H4 H5 H6 H7 H8 H9)
  all_goals (go_ret; refine ⟨ret_int ?_, chain HB0.out hb⟩; rw [← HE.out]; clear HE HB0 hW0; simp only [Bool.not_eq_true', Bool.not_eq_false'] at *; subst_vars; first | rfl | contradiction)
end Go.Proofs.Ytdkndcmjcmeddaa
