/- Converged. -/
import Derived.Test.YtdkndcmjcmeddaaAu8
namespace Go.Proofs.Ytdkndcmjcmeddaa
open Go.RowKit Lift
set_option linter.unusedSimpArgs false
set_option linter.unusedVariables false

def differs (s : Sd) (c : Ent) : Bool := !decide (((mateL s.r c.1).getD zRec).2.2.2.1 = c.2.2.2)
set_option maxHeartbeats 4000000 in
set_option maxRecDepth 100000 in
theorem differ1 (s : Sd) (a : Nat) (B : Nat) (W : World) (ha : a < B) (hB : B ≤ W.heap.size) (hs : SdOk B W s) (hc : SdBox W a s) : PredOf okEnt encEnt 32 [.pointer (some ⟨a, 0, none⟩)] (differs s) B W := by
  refine ⟨fun args w => by kernel_rfl, fun w c hok hb => ?_⟩
  have hlt : a < w.heap.size := by have := hb.size; omega
  have hcw := hc.old hb ha
  have hb1 : Below w.heap.size w (w.alloc (.cells #[.int .i64 c.1, .int .i64 c.2.1, .int .i64 c.2.2.1, .string c.2.2.2] 37)) := (Below.refl _ _).alloc (Nat.le_refl _) _
  have HM := Lib.hid (mate_lit s c (w.alloc (.cells #[.int .i64 c.1, .int .i64 c.2.1, .int .i64 c.2.2.1, .string c.2.2.2] 37)) (((hs.old hb).up (by have := hb.size; omega)).old hb1 |>.up (by simp)))
  have HY := Lib.hid (show ∀ w', Below (w.alloc (.cells #[.int .i64 c.1, .int .i64 c.2.1, .int .i64 c.2.2.1, .string c.2.2.2] 37)).heap.size (w.alloc (.cells #[.int .i64 c.1, .int .i64 c.2.1, .int .i64 c.2.2.1, .string c.2.2.2] 37)) w' → w'.cell? ⟨w.heap.size, 3, none⟩ = some (.string c.2.2.2) from fun w' h => (h.cell (p := ⟨w.heap.size, 3, none⟩) (by simp)).trans (by simp [go_sem]))
  unfold differs
  generalize ((mateL s.r c.1).getD zRec) = d at *
  generalize (mateL s.r c.1).isSome = f at *
  obtain ⟨x0, x1, x2, x3⟩ := hcw
  clear hb hc hs
  show Calls Try.prog 32 #[encEnt c, .pointer (some ⟨a, 0, none⟩)] w _
  unfold encEnt
  unfold sdV at HM
  go_enter Try.func32, Try.ntmps32
  go_wp2_with fail
  with_reducible refine HM.out.mono ?_
  rintro e w3 ⟨rfl, hb3⟩
  have yy := HY.out _ hb3
  have hlt3 := hb3.size
  simp only [World.size_alloc] at hlt3
  have hlt4 : w.heap.size < w3.heap.size := by omega
  go_wp2_with fail
  go_ret
  exact ⟨ret_bool (by rw [str_eq]), chain hb1 (hb3.alloc hb3.size _)⟩

def convB (s : Sd) (last anchor : Int) : Bool := okM s && decide (0 < last) && decide (last = anchor) && !pendB s && !s.e.any (differs s)
set_option maxHeartbeats 8000000 in
set_option maxRecDepth 100000 in
theorem conv_any (s : Sd) (last anchor : Int) (w : World) (hs : SdOk w.heap.size w s) : Calls Try.prog 10 #[sdV s, .int .i64 last, .int .i64 anchor] w (BelowPost (.bool (convB s last anchor)) w) := by
  obtain ⟨W0, hW0⟩ : ∃ W0, w.alloc (.cells #[.slice s.ea s.e.length s.ec, .slice s.ga s.g.length s.gc, .slice s.pa s.p.length s.pc, .slice s.ra s.r.length s.rc] 26) = W0 := ⟨_, rfl⟩
  have hb0 : Below w.heap.size w W0 := by rw [← hW0]; exact (Below.refl _ _).alloc (Nat.le_refl _) _
  have hsz : W0.heap.size = w.heap.size + 1 := by rw [← hW0]; simp
  have hbx : SdBox W0 w.heap.size s := by rw [← hW0]; exact ⟨by simp [go_sem], by simp [go_sem], by simp [go_sem], by simp [go_sem]⟩
  have hs0 : SdOk W0.heap.size W0 s := (hs.old hb0).up (by omega)
  have HX := Lib.hid (show ∀ w', Below W0.heap.size W0 w' → w'.cell? ⟨w.heap.size, 0, none⟩ = some (.slice s.ea s.e.length s.ec) ∧ w'.cell? ⟨w.heap.size, 1, none⟩ = some (.slice s.ga s.g.length s.gc) ∧ w'.cell? ⟨w.heap.size, 2, none⟩ = some (.slice s.pa s.p.length s.pc) ∧ w'.cell? ⟨w.heap.size, 3, none⟩ = some (.slice s.ra s.r.length s.rc) from fun w' h => hbx.old h (by omega))
  have H1 := Lib.hid (show ∀ w', Below W0.heap.size W0 w' → Calls Try.prog 5 #[sdV s] w' (MatesPost (matesL s) (okM s) w') from fun w' h => mates_any s w' ((hs0.old h).up h.size))
  have H2 := Lib.hid (show ∀ w', Below W0.heap.size W0 w' → Calls Try.prog 31 #[sdV s] w' (BelowPost (.bool (pendB s)) w') from fun w' h => pending_any s w' ((hs0.old h).up h.size))
  have H3 := Lib.hid (show ∀ w', Below W0.heap.size W0 w' → Calls Try.prog 21 #[.slice s.ea s.e.length s.ec, .func (.func 32) #[] #[.pointer (some ⟨w.heap.size, 0, none⟩)]] w' (BelowPost (.bool (s.e.any (differs s))) w') from fun w' h =>
    contains_ent1 _ _ _ _ _ _ w' (hs0.old h).e.here (by have := hs.el; omega) (differ1 s _ _ _ (by have := h.size; omega) (Nat.le_refl _) ((hs0.old h).up h.size) (hbx.old h (by omega))))
  have hb := Below.refl W0.heap.size W0
  unfold convB
  generalize matesL s = L at *
  generalize okM s = b1 at *
  generalize pendB s = b2 at *
  generalize s.e.any (differs s) = b3 at *
  obtain ⟨x0, x1, x2, x3⟩ := hbx
  have HB0 := Lib.hid hb0
  have HSZ := Lib.hid hsz
  clear hs hs0 hsz hb0
  unfold sdV at *
  obtain ⟨E, hE⟩ : ∃ E, (b1 && decide (0 < last) && decide (last = anchor) && !b2 && !b3) = E := ⟨_, rfl⟩
  rw [hE]
  have HE := Lib.hid hE
  clear hE
  cases b1 with
  | false =>
    go_enter Try.func10, Try.ntmps10
    go_wp2_with (first | ((with_reducible refine (H1.out _ hb).mono ?_); rintro e w3 ⟨v, rfl, hO, hb3⟩; obtain ⟨ao2, cap2, rfl⟩ := hO.form; have hb := hb.trans (hb3.mono hb.size); obtain ⟨x0, x1, x2, x3⟩ := HX.out _ hb; clear hb3 hO) | ((with_reducible refine (H2.out _ hb).mono ?_); rintro e w3 ⟨rfl, hb3⟩; have hb := hb.trans (hb3.mono hb.size); obtain ⟨x0, x1, x2, x3⟩ := HX.out _ hb; clear hb3) | ((with_reducible refine (H3.out _ hb).mono ?_); rintro e w3 ⟨rfl, hb3⟩; have hb := hb.trans (hb3.mono hb.size); obtain ⟨x0, x1, x2, x3⟩ := HX.out _ hb; clear hb3))
    go_ret
    exact ⟨ret_bool (by rw [← HE.out]; simp), chain HB0.out hb⟩
  | true =>
    by_cases h1 : 0 < last
    · by_cases h2 : last = anchor
      · subst h2
        cases b2 with
        | true =>
          go_enter Try.func10, Try.ntmps10
          go_wp2_with (first | ((with_reducible refine (H1.out _ hb).mono ?_); rintro e w3 ⟨v, rfl, hO, hb3⟩; obtain ⟨ao2, cap2, rfl⟩ := hO.form; have hb := hb.trans (hb3.mono hb.size); obtain ⟨x0, x1, x2, x3⟩ := HX.out _ hb; clear hb3 hO) | ((with_reducible refine (H2.out _ hb).mono ?_); rintro e w3 ⟨rfl, hb3⟩; have hb := hb.trans (hb3.mono hb.size); obtain ⟨x0, x1, x2, x3⟩ := HX.out _ hb; clear hb3) | ((with_reducible refine (H3.out _ hb).mono ?_); rintro e w3 ⟨rfl, hb3⟩; have hb := hb.trans (hb3.mono hb.size); obtain ⟨x0, x1, x2, x3⟩ := HX.out _ hb; clear hb3))
          go_ret
          exact ⟨ret_bool (by rw [← HE.out]; simp), chain HB0.out hb⟩
        | false =>
          go_enter Try.func10, Try.ntmps10
          go_wp2_with (first | ((with_reducible refine (H1.out _ hb).mono ?_); rintro e w3 ⟨v, rfl, hO, hb3⟩; obtain ⟨ao2, cap2, rfl⟩ := hO.form; have hb := hb.trans (hb3.mono hb.size); obtain ⟨x0, x1, x2, x3⟩ := HX.out _ hb; clear hb3 hO) | ((with_reducible refine (H2.out _ hb).mono ?_); rintro e w3 ⟨rfl, hb3⟩; have hb := hb.trans (hb3.mono hb.size); obtain ⟨x0, x1, x2, x3⟩ := HX.out _ hb; clear hb3) | ((with_reducible refine (H3.out _ hb).mono ?_); rintro e w3 ⟨rfl, hb3⟩; have hb := hb.trans (hb3.mono hb.size); obtain ⟨x0, x1, x2, x3⟩ := HX.out _ hb; clear hb3))
          go_ret
          exact ⟨ret_bool (by rw [← HE.out]; simp [h1]), chain HB0.out hb⟩
      · go_enter Try.func10, Try.ntmps10
        go_wp2_with (first | ((with_reducible refine (H1.out _ hb).mono ?_); rintro e w3 ⟨v, rfl, hO, hb3⟩; obtain ⟨ao2, cap2, rfl⟩ := hO.form; have hb := hb.trans (hb3.mono hb.size); obtain ⟨x0, x1, x2, x3⟩ := HX.out _ hb; clear hb3 hO) | ((with_reducible refine (H2.out _ hb).mono ?_); rintro e w3 ⟨rfl, hb3⟩; have hb := hb.trans (hb3.mono hb.size); obtain ⟨x0, x1, x2, x3⟩ := HX.out _ hb; clear hb3) | ((with_reducible refine (H3.out _ hb).mono ?_); rintro e w3 ⟨rfl, hb3⟩; have hb := hb.trans (hb3.mono hb.size); obtain ⟨x0, x1, x2, x3⟩ := HX.out _ hb; clear hb3))
        go_ret
        exact ⟨ret_bool (by rw [← HE.out]; simp [h2]), chain HB0.out hb⟩
    · go_enter Try.func10, Try.ntmps10
      go_wp2_with (first | ((with_reducible refine (H1.out _ hb).mono ?_); rintro e w3 ⟨v, rfl, hO, hb3⟩; obtain ⟨ao2, cap2, rfl⟩ := hO.form; have hb := hb.trans (hb3.mono hb.size); obtain ⟨x0, x1, x2, x3⟩ := HX.out _ hb; clear hb3 hO) | ((with_reducible refine (H2.out _ hb).mono ?_); rintro e w3 ⟨rfl, hb3⟩; have hb := hb.trans (hb3.mono hb.size); obtain ⟨x0, x1, x2, x3⟩ := HX.out _ hb; clear hb3) | ((with_reducible refine (H3.out _ hb).mono ?_); rintro e w3 ⟨rfl, hb3⟩; have hb := hb.trans (hb3.mono hb.size); obtain ⟨x0, x1, x2, x3⟩ := HX.out _ hb; clear hb3))
      go_ret
      exact ⟨ret_bool (by rw [← HE.out]; simp; intros; omega), chain HB0.out hb⟩
end Go.Proofs.Ytdkndcmjcmeddaa
