/- works(): what the two laws try first. -/
import Derived.Test.YtkmkedmefhmnaaaLApp3
import Derived.Test.YtkmkedmefhmnaaaLNet
import Derived.Deep.RegionHeld3
namespace Go.Proofs.Ytkmkedmefhmnaaa
open Go.RowKit Go.Maps Lift
set_option linter.unusedSimpArgs false
set_option linter.unusedVariables false

theorem ints2 {W : World} {b : Nat} {x y : Int} (hx : Wf x) (hy : Wf y) (hb : b < W.heap.size) (h0 : W.cell? ⟨b, 0, none⟩ = some (.int .i64 x)) (h1 : W.cell? ⟨b, 1, none⟩ = some (.int .i64 y)) : SlAt (Rd.int .i64) (· < W.heap.size) W (some ⟨b, 0, none⟩) [x, y] := by
  refine .inr ⟨b, 0, rfl, hb, hb, fun k c hk => ⟨[.int .i64 c], ⟨rfl, ?_⟩, fun i v hi => ?_⟩⟩
  · match k, hk with
    | 0, hk => simp at hk; subst hk; exact hx
    | 1, hk => simp at hk; subst hk; exact hy
  · match i, hi with
    | 0, hi =>
      simp at hi; subst hi
      match k, hk with
      | 0, hk => simp at hk; subst hk; simpa [Rd.int] using h0
      | 1, hk => simp at hk; subst hk; simpa [Rd.int] using h1
def log3 : List Chg := [(1, 5, 1), (2, 6, 1), (3, 5, 2)]
theorem log3_at (w : World) (g : Nat) (hg : g = w.heap.size) : SlAt rChg (· < (w.alloc (.cells #[.int .i64 1, .int .i64 5, .int .i64 1, .int .i64 2, .int .i64 6, .int .i64 1, .int .i64 3, .int .i64 5, .int .i64 2] 28)).heap.size) (w.alloc (.cells #[.int .i64 1, .int .i64 5, .int .i64 1, .int .i64 2, .int .i64 6, .int .i64 1, .int .i64 3, .int .i64 5, .int .i64 2] 28)) (some ⟨g, 0, none⟩) log3 := by
  subst hg
  refine .inr ⟨w.heap.size, 0, rfl, by simp, by simp, fun k c hk => ?_⟩
  match k, hk with
  | 0, hk => simp [log3] at hk; subst hk; exact ⟨_, chg_rel _ _ (1, 5, 1) (Wf.of (by decide) (by decide)) (Wf.of (by decide) (by decide)) (Wf.of (by decide) (by decide)), fun i v hi => by match i, hi with
                                                                                                                                  | 0, hi => simp at hi; subst hi; simp [go_sem, rChg, Rd.pair, Rd.int]
                                                                                                                                  | 1, hi => simp at hi; subst hi; simp [go_sem, rChg, Rd.pair, Rd.int]
                                                                                                                                  | 2, hi => simp at hi; subst hi; simp [go_sem, rChg, Rd.pair, Rd.int]⟩
  | 1, hk => simp [log3] at hk; subst hk; exact ⟨_, chg_rel _ _ (2, 6, 1) (Wf.of (by decide) (by decide)) (Wf.of (by decide) (by decide)) (Wf.of (by decide) (by decide)), fun i v hi => by match i, hi with
                                                                                                                                  | 0, hi => simp at hi; subst hi; simp [go_sem, rChg, Rd.pair, Rd.int]
                                                                                                                                  | 1, hi => simp at hi; subst hi; simp [go_sem, rChg, Rd.pair, Rd.int]
                                                                                                                                  | 2, hi => simp at hi; subst hi; simp [go_sem, rChg, Rd.pair, Rd.int]⟩
  | 2, hk => simp [log3] at hk; subst hk; exact ⟨_, chg_rel _ _ (3, 5, 2) (Wf.of (by decide) (by decide)) (Wf.of (by decide) (by decide)) (Wf.of (by decide) (by decide)), fun i v hi => by match i, hi with
                                                                                                                                  | 0, hi => simp at hi; subst hi; simp [go_sem, rChg, Rd.pair, Rd.int]
                                                                                                                                  | 1, hi => simp at hi; subst hi; simp [go_sem, rChg, Rd.pair, Rd.int]
                                                                                                                                  | 2, hi => simp at hi; subst hi; simp [go_sem, rChg, Rd.pair, Rd.int]⟩
theorem log3_net : netL 0 log3 = [(2, 6, 1), (3, 5, 2)] := by decide
theorem log3_apply : applyL [7, 5] log3 = [6, 7] := by decide

theorem works_apply {W : World} {b c : Nat} (h1 : SlAt (Rd.int .i64) (· < W.heap.size) W (some ⟨b, 0, none⟩) [7, 5]) (h2 : SlAt rChg (· < W.heap.size) W (some ⟨c, 0, none⟩) log3) : Calls Try.prog 18 #[.slice (some ⟨b, 0, none⟩) 2 2, .slice (some ⟨c, 0, none⟩) 3 3] W fun e w' => ∃ ao cap, e = .returned (.slice ao 2 cap) ∧ SlAt (Rd.int .i64) (· < w'.heap.size) w' ao [6, 7] ∧ Below W.heap.size W w' := by
  refine (apply_any _ 2 [7, 5] _ 3 log3 W h1 h2 (by decide) (by decide)).mono ?_
  rintro e w5 ⟨ao5, cap5, rfl, hO5, hb5⟩
  rw [log3_apply] at hO5 ⊢
  exact ⟨ao5, cap5, rfl, hO5.here, hb5⟩
theorem works_same {W : World} {b : Nat} {ao : Option Addr} {cap : Nat} (h1 : SlAt (Rd.int .i64) (· < W.heap.size) W ao [6, 7]) (h2 : SlAt (Rd.int .i64) (· < W.heap.size) W (some ⟨b, 0, none⟩) [6, 7]) : Calls Try.prog 17 #[.slice ao 2 cap, .slice (some ⟨b, 0, none⟩) 2 2] W (BelowPost (.bool true) W) :=
  sameInts_ref _ _ _ 2 [6, 7] [6, 7] W h1 h2 (by decide)
theorem cell_two (w : World) (x y : Value) (e : TypeId) (o : Obj) : ((w.alloc (.cells #[x, y] e)).alloc o).drew.cell? ⟨w.heap.size, 0, none⟩ = some x ∧ ((w.alloc (.cells #[x, y] e)).alloc o).drew.cell? ⟨w.heap.size, 1, none⟩ = some y := by
  have hb : Below (w.alloc (.cells #[x, y] e)).heap.size (w.alloc (.cells #[x, y] e)) ((w.alloc (.cells #[x, y] e)).alloc o).drew := ((Below.refl _ _).alloc (Nat.le_refl _) o).drew
  exact ⟨(hb.cell (p := ⟨_, _, none⟩) (by simp)).trans (by simp [go_sem]), (hb.cell (p := ⟨_, _, none⟩) (by simp)).trans (by simp [go_sem])⟩
theorem wf_small {x : Int} (h : 0 ≤ x ∧ x ≤ 100) : Wf x := Wf.of (by omega) (by omega)

set_option maxHeartbeats 1000000 in
set_option maxRecDepth 100000 in
theorem works_true (w : World) : Calls Try.prog 20 #[] w (BelowPost (.bool true) w) := by
  go_enter Try.func20, Try.ntmps20
  go_wp2_with fail
  obtain ⟨w0, hw0⟩ : ∃ w0 : World, (w.alloc (.cells #[.int .i64 1, .int .i64 5, .int .i64 1, .int .i64 2, .int .i64 6, .int .i64 1, .int .i64 3, .int .i64 5, .int .i64 2] 28)) = w0 := ⟨_, rfl⟩
  have hl := log3_at w _ rfl
  have hb0 : Below w.heap.size w w0 := by subst hw0; exact (Below.refl _ _).alloc (Nat.le_refl _) _
  rw [hw0] at hl ⊢
  clear hw0
  refine (net_any _ _ log3 0 _ hl (by decide)).mono ?_
  rintro e w1 ⟨ao3, cap3, rfl, hO3, hb3⟩
  have hb1 := chain hb0 hb3
  have hl1 := hl.below hb3
  rw [log3_net] at hO3 ⊢
  obtain ⟨b1, o1, e1, hbx, x1, x2, x3⟩ := chg_get hO3.here (k := 0) (c := (2, 6, 1)) rfl
  obtain ⟨b2, o2, e2, hby, y1, y2, y3⟩ := chg_get hO3.here (k := 1) (c := (3, 5, 2)) rfl
  obtain ⟨b3, o3, e3, hbz, z1, z2, z3⟩ := chg_get hl1 (k := 1) (c := (2, 6, 1)) rfl
  obtain ⟨b4, o4, e4, hbv, v1, v2, v3⟩ := chg_get hl1 (k := 2) (c := (3, 5, 2)) rfl
  obtain ⟨rfl, rfl⟩ : b2 = b1 ∧ o2 = o1 := by rw [e1] at e2; injection e2 with e2; injection e2 with h1 h2; exact ⟨h1.symm, h2.symm⟩
  obtain ⟨rfl, rfl⟩ : b3 = w.heap.size ∧ o3 = 0 := by injection e3 with e3; injection e3 with h1 h2; exact ⟨h1.symm, h2.symm⟩
  obtain ⟨rfl, rfl⟩ : b4 = w.heap.size ∧ o4 = 0 := by injection e4 with e4; injection e4 with h1 h2; exact ⟨h1.symm, h2.symm⟩
  subst e1
  clear e2 e3 e4
  simp only [Nat.zero_mul, Nat.one_mul, Nat.add_zero, Nat.zero_add] at x1 x2 x3 y1 y2 y3 z1 z2 z3 v1 v2 v3
  have HK := Lib.hid (show ∀ w', Below w1.heap.size w1 w' → Below w1.heap.size w1 w' ∧ w'.cell? ⟨b2, o2, none⟩ = some (.int .i64 2) ∧ w'.cell? ⟨b2, o2 + 1, none⟩ = some (.int .i64 6) ∧ w'.cell? ⟨b2, o2 + 2, none⟩ = some (.int .i64 1) ∧ w'.cell? ⟨b2, o2 + 3, none⟩ = some (.int .i64 3) ∧ w'.cell? ⟨b2, o2 + 3 + 1, none⟩ = some (.int .i64 5) ∧ w'.cell? ⟨b2, o2 + 3 + 2, none⟩ = some (.int .i64 2) ∧ w'.cell? ⟨w.heap.size, 3, none⟩ = some (.int .i64 2) ∧ w'.cell? ⟨w.heap.size, 3 + 1, none⟩ = some (.int .i64 6) ∧ w'.cell? ⟨w.heap.size, 3 + 2, none⟩ = some (.int .i64 1) ∧ w'.cell? ⟨w.heap.size, 2 * 3, none⟩ = some (.int .i64 3) ∧ w'.cell? ⟨w.heap.size, 2 * 3 + 1, none⟩ = some (.int .i64 5) ∧ w'.cell? ⟨w.heap.size, 2 * 3 + 2, none⟩ = some (.int .i64 2) from fun w' hb =>
    ⟨hb, (Below.cell (p := ⟨_, _, none⟩) hb hbx).trans x1, (Below.cell (p := ⟨_, _, none⟩) hb hbx).trans x2, (Below.cell (p := ⟨_, _, none⟩) hb hbx).trans x3, (Below.cell (p := ⟨_, _, none⟩) hb hbx).trans y1, (Below.cell (p := ⟨_, _, none⟩) hb hbx).trans y2, (Below.cell (p := ⟨_, _, none⟩) hb hbx).trans y3,
      (Below.cell (p := ⟨_, _, none⟩) hb hbz).trans z1, (Below.cell (p := ⟨_, _, none⟩) hb hbz).trans z2, (Below.cell (p := ⟨_, _, none⟩) hb hbz).trans z3, (Below.cell (p := ⟨_, _, none⟩) hb hbz).trans v1, (Below.cell (p := ⟨_, _, none⟩) hb hbz).trans v2, (Below.cell (p := ⟨_, _, none⟩) hb hbz).trans v3⟩)
  clear x1 x2 x3 y1 y2 y3 z1 z2 z3 v1 v2 v3
  have hb00 := Below.refl w1.heap.size w1
  go_wp2_with fail
  go_region_held3 (fun w' => Below w1.heap.size w1 w' ∧ w'.cell? ⟨b2, o2, none⟩ = some (.int .i64 2) ∧ w'.cell? ⟨b2, o2 + 1, none⟩ = some (.int .i64 6) ∧ w'.cell? ⟨b2, o2 + 2, none⟩ = some (.int .i64 1) ∧ w'.cell? ⟨b2, o2 + 3, none⟩ = some (.int .i64 3) ∧ w'.cell? ⟨b2, o2 + 3 + 1, none⟩ = some (.int .i64 5) ∧ w'.cell? ⟨b2, o2 + 3 + 2, none⟩ = some (.int .i64 2) ∧ w'.cell? ⟨w.heap.size, 3, none⟩ = some (.int .i64 2) ∧ w'.cell? ⟨w.heap.size, 3 + 1, none⟩ = some (.int .i64 6) ∧ w'.cell? ⟨w.heap.size, 3 + 2, none⟩ = some (.int .i64 1) ∧ w'.cell? ⟨w.heap.size, 2 * 3, none⟩ = some (.int .i64 3) ∧ w'.cell? ⟨w.heap.size, 2 * 3 + 1, none⟩ = some (.int .i64 5) ∧ w'.cell? ⟨w.heap.size, 2 * 3 + 2, none⟩ = some (.int .i64 2))
    (exact HK.out _ (by first | assumption | exact Below.drew (by assumption) | exact ((Below.refl _ _).alloc (Nat.le_refl _) _).drew | exact (((Below.refl _ _).alloc (Nat.le_refl _) _).alloc (by simp) _).drew | exact chain (‹Below w1.heap.size w1 _ ∧ _›).1 (by assumption) | exact (‹Below w1.heap.size w1 _ ∧ _›).1.alloc (‹Below w1.heap.size w1 _ ∧ _›).1.size _ | exact ((‹Below w1.heap.size w1 _ ∧ _›).1.alloc (‹Below w1.heap.size w1 _ ∧ _›).1.size _).drew))
    (first
      | (go_at_call 18; refine (works_apply (ints2 (wf_small (by decide)) (wf_small (by decide)) (by simp <;> omega) (by first | (simp [go_sem]; done) | exact (cell_two ..).1) (by first | (simp [go_sem]; done) | exact (cell_two ..).2)) (hl1.below (‹Below w1.heap.size w1 _ ∧ _›).1).here).mono ?_; rintro e w5 ⟨ao5, cap5, rfl, hO5, hb5⟩)
      | (go_at_call 17; refine (works_same hO5 (ints2 (wf_small (by decide)) (wf_small (by decide)) (Nat.lt_of_lt_of_le (by simp <;> omega) hb5.size) ((hb5.cell (p := ⟨_, _, none⟩) (by simp <;> omega)).trans (by first | (simp [go_sem]; done) | exact (cell_two ..).1)) ((hb5.cell (p := ⟨_, _, none⟩) (by simp <;> omega)).trans (by first | (simp [go_sem]; done) | exact (cell_two ..).2)))).mono ?_; rintro e w6 ⟨rfl, hb6⟩)
      | (go_at_call 17; refine (works_same (hO5.below ((Below.refl _ _).alloc (Nat.le_refl _) _)).here (ints2 (wf_small (by decide)) (wf_small (by decide)) (by simp <;> omega) (by first | (simp [go_sem]; done) | exact (cell_two ..).1) (by first | (simp [go_sem]; done) | exact (cell_two ..).2))).mono ?_; rintro e w6 ⟨rfl, hb6⟩))
  all_goals
    go_wp2_with fail
    go_ret
    exact ⟨rfl, hb1.trans ((‹Below w1.heap.size w1 _ ∧ _›).1.mono hb1.size)⟩
end Go.Proofs.Ytkmkedmefhmnaaa
