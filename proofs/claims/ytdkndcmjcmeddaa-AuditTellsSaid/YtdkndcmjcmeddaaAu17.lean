/- The law's own works. -/
import Derived.Test.YtdkndcmjcmeddaaAu16
namespace Go.Proofs.Ytdkndcmjcmeddaa
open Go.RowKit Lift
set_option linter.unusedSimpArgs false
set_option linter.unusedVariables false
theorem one_at {α : Type} (r : Rd α) (S : Nat → Prop) (w : World) (b : Nat) (c : α) (cs : List Value) (hS : S b) (hb : b < w.heap.size) (hrel : r.rel S w cs c) (hc : ∀ j v, cs[j]? = some v → w.cell? ⟨b, j, none⟩ = some v) : SlAt r S w (some ⟨b, 0, none⟩) [c] := by
  refine .inr ⟨b, 0, rfl, hS, hb, fun k d hk => ?_⟩
  cases k with
  | zero =>
    obtain rfl : c = d := by simpa using hk
    exact ⟨cs, hrel, fun j v hj => by simpa using hc j v hj⟩
  | succ k => simp at hk
def wE : Ent := (5, 0, 1, ⟨#[120]⟩)
def wR : Rec := (2, true, 1, ⟨#[120]⟩, 5, 1, ⟨#[120]⟩, 0, ⟨#[]⟩)
def wS (a b : Nat) : Sd := ⟨[wE], [], [], [wR], some ⟨a, 0, none⟩, none, none, some ⟨b, 0, none⟩, 1, 0, 0, 1⟩
def wT (b : Nat) : Sd := ⟨[], [], [], [wR], none, none, none, some ⟨b, 0, none⟩, 0, 0, 0, 1⟩
theorem e120 : emptyB ⟨#[120]⟩ = false := by rw [emptyB, empty_eq]; decide
theorem ws_sound (a b : Nat) : soundE (wS a b) = 0 := by simp [soundE, wS, wE, wR, risL, oneB, twiceB, twL, times, e120]
theorem ws_ok (a b : Nat) : okM (wS a b) = true := by rw [okM, ws_sound]; simp [wS, wE, wR, mateL, isMate, oneB]
theorem ws_l (a b : Nat) : matesL (wS a b) = [(5, 2)] := by rw [matesL, ws_ok]; simp [wS, wE, wR, mateL, isMate, mtOf]
theorem ws_pend (a b : Nat) : pendB (wS a b) = false := by simp [pendB, wS, wE, wR, isDue, dueI]
theorem ws_diff (a b : Nat) : (wS a b).e.any (differs (wS a b)) = false := by simp [wS, wE, wR, differs, mateL, isMate]
theorem ws_c1 (a b : Nat) : convB (wS a b) 3 3 = true := by rw [convB, ws_ok, ws_pend, ws_diff]; rfl
theorem ws_c2 (a b : Nat) : convB (wS a b) 3 2 = false := by rw [convB, ws_ok]; rfl
theorem wt_ok (b : Nat) : okM (wT b) = false := by simp [okM, wT, wR, oneB]
theorem wt_c (b : Nat) : convB (wT b) 3 3 = false := by rw [convB, wt_ok]; rfl
set_option maxHeartbeats 1000000 in
set_option maxRecDepth 100000 in
theorem works_any (w : World) : Calls Try.prog 12 #[] w (BelowPost (.bool true) w) := by
  obtain ⟨W1, hW1⟩ : ∃ W1, (((w.alloc (.cells #[.int .i64 5, .int .i64 0, .int .i64 1, .string ⟨#[120]⟩] 37)).alloc (.cells #[.int .i64 2, .bool true, .int .i64 1, .string ⟨#[120]⟩, .int .i64 5, .int .i64 1, .string ⟨#[120]⟩, .int .i64 0, .string ⟨#[]⟩] 39)).alloc (.cells #[.slice (some ⟨w.heap.size, 0, none⟩) 1 1, .slice none 0 0, .slice none 0 0, .slice (some ⟨w.heap.size + 1, 0, none⟩) 1 1] 26)) = W1 := ⟨_, rfl⟩
  have hb1 : Below w.heap.size w W1 := by rw [← hW1]; exact (((Below.refl _ _).alloc (Nat.le_refl _) _).alloc (by simp) _).alloc (by simp; omega) _
  have hz1 : W1.heap.size = w.heap.size + 1 + 1 + 1 := by rw [← hW1]; simp
  have hs1 : SdOk W1.heap.size W1 (wS w.heap.size (w.heap.size + 1)) := by
    refine ⟨one_at rEnt _ W1 _ wE (cellsEnt wE) (by omega) (by omega) (ent_rel _ _ _ ⟨by decide, by decide, by decide, by decide⟩) ?_, .inl rfl, .inl rfl, one_at rRec _ W1 _ wR (cellsRec wR) (by omega) (by omega) (rec_rel _ _ _ ⟨by decide, trivial, by decide, by decide, by decide, by decide, by decide, by decide, by decide⟩) ?_, by simp [wS], by simp [wS], by simp [wS], by simp [wS]⟩
    · intro j v hj
      rw [← hW1]
      match j with
      | 0 => simpa [go_sem, cellsEnt, wE] using hj
      | 1 => simpa [go_sem, cellsEnt, wE] using hj
      | 2 => simpa [go_sem, cellsEnt, wE] using hj
      | 3 => simpa [go_sem, cellsEnt, wE] using hj
      | j + 4 => simp [cellsEnt, wE] at hj
    · intro j v hj
      rw [← hW1]
      match j with
      | 0 => simpa [go_sem, cellsRec, wR] using hj
      | 1 => simpa [go_sem, cellsRec, wR] using hj
      | 2 => simpa [go_sem, cellsRec, wR] using hj
      | 3 => simpa [go_sem, cellsRec, wR] using hj
      | 4 => simpa [go_sem, cellsRec, wR] using hj
      | 5 => simpa [go_sem, cellsRec, wR] using hj
      | 6 => simpa [go_sem, cellsRec, wR] using hj
      | 7 => simpa [go_sem, cellsRec, wR] using hj
      | 8 => simpa [go_sem, cellsRec, wR] using hj
      | j + 9 => simp [cellsRec, wR] at hj
  have hx1 : SdBox W1 (w.heap.size + 1 + 1) (wS w.heap.size (w.heap.size + 1)) := by
    rw [← hW1]; exact ⟨by simp [go_sem, wS], by simp [go_sem, wS], by simp [go_sem, wS], by simp [go_sem, wS]⟩
  have hR : RBox (w.heap.size + 1 + 1) (wS w.heap.size (w.heap.size + 1)) W1 := ⟨by omega, hs1, hx1⟩
  have hM := Lib.hid (mates_any _ W1 hs1)
  rw [ws_l, ws_ok] at hM
  obtain ⟨x0, x1, x2, x3⟩ := hx1
  simp only [wS, List.length_cons, List.length_nil, Nat.zero_add] at x0 x1 x2 x3
  have hlt := hR.lt
  clear hs1
  go_enter Try.func12, Try.ntmps12
  simp only [sdV, wS, List.length_cons, List.length_nil, Nat.zero_add] at hM
  go_wp2_with fail
  clear hW1 x0 x1 x2 x3
  with_reducible refine hM.out.mono ?_
  rintro e w2 ⟨v, rfl, hO, hb2⟩
  obtain ⟨la, lc, e⟩ := hO.form
  subst e
  have hlc := hO.cap
  obtain ⟨g, off, rfl, hg1, hg2, hgo, m0, m1⟩ := mt_get hO.here (k := 0) (c := (5, 2)) rfl
  have hB2 := chain hb1 hb2
  have hR2 := Lib.hid (hR.next hb2)
  obtain ⟨x0, x1, x2, x3⟩ := hR2.out.bx
  have hlt := hR2.out.lt
  simp only [wS, List.length_cons, List.length_nil, Nat.zero_add] at x0 x1 x2 x3
  obtain ⟨W4, hW4⟩ : ∃ W4, w2.alloc (.cells #[.slice none 0 0, .slice none 0 0, .slice none 0 0, .slice (some ⟨w.heap.size + 1, 0, none⟩) 1 1] 26) = W4 := ⟨_, rfl⟩
  have hb4 : Below w2.heap.size w2 W4 := by rw [← hW4]; exact (Below.refl _ _).alloc (Nat.le_refl _) _
  have hz4 : W4.heap.size = w2.heap.size + 1 := by rw [← hW4]; simp
  have hs4 : SdOk W4.heap.size W4 (wT (w.heap.size + 1)) := by
    have h1 := (hR2.out.next hb4).ok
    exact ⟨.inl rfl, .inl rfl, .inl rfl, h1.r, by simp [wT], by simp [wT], by simp [wT], by simp [wT]⟩
  have hx4 : SdBox W4 w2.heap.size (wT (w.heap.size + 1)) := by
    rw [← hW4]; exact ⟨by simp [go_sem, wT], by simp [go_sem, wT], by simp [go_sem, wT], by simp [go_sem, wT]⟩
  have hR4 : RBox w2.heap.size (wT (w.heap.size + 1)) W4 := ⟨by omega, hs4, hx4⟩
  have hR5 := hR2.out.next hb4
  have hB4 := chain hB2 hb4
  have HB4 := Lib.hid hB4
  have H1 := Lib.hid (show ∀ w', Below W4.heap.size W4 w' → Calls Try.prog 10 #[sdV (wS w.heap.size (w.heap.size + 1)), .int .i64 3, .int .i64 3] w' (FromPost W4.heap.size W4 (.bool true)) from fun w' h => by
    have := from_post h (conv_any _ 3 3 w' (hR5.next h).ok); rwa [ws_c1] at this)
  have H2 := Lib.hid (show ∀ w', Below W4.heap.size W4 w' → Calls Try.prog 10 #[sdV (wS w.heap.size (w.heap.size + 1)), .int .i64 3, .int .i64 2] w' (FromPost W4.heap.size W4 (.bool false)) from fun w' h => by
    have := from_post h (conv_any _ 3 2 w' (hR5.next h).ok); rwa [ws_c2] at this)
  have H3 := Lib.hid (show ∀ w', Below W4.heap.size W4 w' → Calls Try.prog 10 #[sdV (wT (w.heap.size + 1)), .int .i64 3, .int .i64 3] w' (FromPost W4.heap.size W4 (.bool false)) from fun w' h => by
    have := from_post h (conv_any _ 3 3 w' (hR4.next h).ok); rwa [wt_c] at this)
  have H4 := Lib.hid (show ∀ w', Below W4.heap.size W4 w' → Calls Try.prog 7 #[sdV (wS w.heap.size (w.heap.size + 1))] w' (FromPost W4.heap.size W4 (.int .i64 0)) from fun w' h => by
    have := from_post h (sound_any _ w' (hR5.next h).ok); rwa [ws_sound] at this)
  simp only [sdV, wS, wT, List.length_cons, List.length_nil, Nat.zero_add] at H1 H2 H3 H4
  have HM := Lib.hid (show ∀ w', Below W4.heap.size W4 w' → SdBox w' (w.heap.size + 1 + 1) (wS w.heap.size (w.heap.size + 1)) ∧ SdBox w' w2.heap.size (wT (w.heap.size + 1)) from fun w' h => ⟨(hR5.next h).bx, (hR4.next h).bx⟩)
  simp only [SdBox, wS, wT, List.length_cons, List.length_nil, Nat.zero_add] at HM
  have M0 := (hb4.cell (p := ⟨g, off + 0 * 2, none⟩) hg2).trans m0
  have M1 := (hb4.cell (p := ⟨g, off + 0 * 2 + 1, none⟩) hg2).trans m1
  simp only [Nat.zero_mul, Nat.add_zero] at M0 M1
  have hb := Below.refl W4.heap.size W4
  obtain ⟨⟨x0, x1, x2, x3⟩, y0, y1, y2, y3⟩ := HM.out _ hb
  have hq := mt_equal 5 2 5 2
  simp only [and_self, decide_true] at hq
  have HLT := Lib.hid hlt
  clear hR4 hR5 hs4 hx4 hB4 hB2 hO m0 m1 hgo hb2 hR
  go_wp2_with (first | ((with_reducible refine (H1.out _ hb).mono ?_); rintro e w3 ⟨rfl, hb⟩; obtain ⟨⟨x0, x1, x2, x3⟩, y0, y1, y2, y3⟩ := HM.out _ hb) | ((with_reducible refine (H2.out _ hb).mono ?_); rintro e w3 ⟨rfl, hb⟩; obtain ⟨⟨x0, x1, x2, x3⟩, y0, y1, y2, y3⟩ := HM.out _ hb) | ((with_reducible refine (H3.out _ hb).mono ?_); rintro e w3 ⟨rfl, hb⟩; obtain ⟨⟨x0, x1, x2, x3⟩, y0, y1, y2, y3⟩ := HM.out _ hb) | ((with_reducible refine (H4.out _ hb).mono ?_); rintro e w3 ⟨rfl, hb⟩; obtain ⟨⟨x0, x1, x2, x3⟩, y0, y1, y2, y3⟩ := HM.out _ hb))
  go_ret
  exact ⟨rfl, chain HB4.out hb⟩
end Go.Proofs.Ytdkndcmjcmeddaa
