/- The law's own small example: what is put; the program's. -/
import Derived.Test.YtefefpiealknlaaGreatDoorMd8
import Derived.Deep.RegionWith
import Derived.Deep.CutBlock
import Derived.Deep.CutRange
namespace Go.Proofs.YtefefpiealknlaaGreatDoor
open Go.RowKit Lift
set_option linter.unusedSimpArgs false
set_option linter.unusedVariables false

theorem okRec_mk {a b c e f : Int} {x : Bool} {s1 s2 s3 : ByteArray} (h1 : Wf a) (h2 : Wf b) (h3 : s1.size ≤ maxTx) (h4 : Wf c) (h5 : Wf e) (h6 : s2.size ≤ maxTx) (h7 : Wf f) (h8 : s3.size ≤ maxTx) : okRec (a, x, b, s1, c, e, s2, f, s3) := ⟨h1, trivial, h2, h3, h4, h5, h6, h7, h8⟩
def rW : Rec := (1, true, 4, ⟨#[121]⟩, 5, 2, ⟨#[98]⟩, 0, ⟨#[]⟩)
def WorkPost (base d : Nat) (g cap : Nat) (rule : Int) (w : World) (e : Ending) (w' : World) : Prop := e = .returned (.bool true) ∧ ∃ c ver, c.2.1 = true ∧ c.2.2.2.1 = (if rule = 2 then ⟨#[120]⟩ else ⟨#[121]⟩) ∧ Dk base w' d (.slice (some ⟨g, 0, none⟩) 1 cap) [c] ver rule ∧ Kept (fun k => k = g ∨ k = d) w w'
set_option maxHeartbeats 1000000 in
set_option maxRecDepth 100000 in
theorem resolve_same2 (b x y : ByteArray) (w : World) : Calls Tryz.prog 54 #[.int .i64 2, .string b, .string x, .string y] w (fun e w' => e = .returned (.string x) ∧ w' = w) := by
  go_enter Tryz.func54, Tryz.ntmps54
  go_wp2_with fail
  go_ret
  exact ⟨rfl, rfl⟩
set_option maxHeartbeats 1000000 in
set_option maxRecDepth 100000 in
theorem resolve_same1 (b x y : ByteArray) (w : World) : Calls Tryz.prog 54 #[.int .i64 1, .string b, .string x, .string y] w (fun e w' => e = .returned (.string y) ∧ w' = w) := by
  go_enter Tryz.func54, Tryz.ntmps54
  go_wp2_with fail
  go_ret
  exact ⟨rfl, rfl⟩
set_option maxHeartbeats 1000000 in
set_option maxRecDepth 100000 in
theorem next_raw (d : Nat) (ver : Int) (w : World) (c1 : w.cell? ⟨d, 1, none⟩ = some (.int .i64 ver)) (f1 : w.frozen? ⟨d, 1, none⟩ = false) (v1 : -4611686018427387904 ≤ ver) (v2 : ver ≤ 4611686018427387904) :
    Calls Tryz.prog 53 #[.pointer (some ⟨d, 0, none⟩)] w (NextPost d ver w) := by
  go_enter Tryz.func53, Tryz.ntmps53
  go_wp2_with fail
  go_ret
  exact ⟨rfl, rfl⟩
set_option maxHeartbeats 8000000 in
set_option maxRecDepth 100000 in
theorem put_works {base : Nat} {w : World} {d g cap : Nat} {ver rule : Int} (h : Dk base w d (.slice (some ⟨g, 0, none⟩) 1 cap) [rW] ver rule) (hrule : rule = 1 ∨ rule = 2) (hvv : ver ≤ 1000) :
    Calls Tryz.prog 29 #[.pointer (some ⟨d, 0, none⟩), .agg #[.int .i64 5, .int .i64 3, .int .i64 2, .string ⟨#[120]⟩], .bool false] w (WorkPost base d g cap rule w) := by
  obtain ⟨W0, hW0⟩ : ∃ W0, w.alloc (.cells #[.int .i64 5, .int .i64 3, .int .i64 2, .string ⟨#[120]⟩] 30) = W0 := ⟨_, rfl⟩
  have hb0 : Below w.heap.size w W0 := by rw [← hW0]; exact (Below.refl _ _).alloc (Nat.le_refl _) _
  have hsz : w.heap.size < W0.heap.size := by rw [← hW0]; simp
  have z0 : W0.cell? ⟨w.heap.size, 0, none⟩ = some (.int .i64 5) := by rw [← hW0]; simp [go_sem]
  have z1 : W0.cell? ⟨w.heap.size, 1, none⟩ = some (.int .i64 3) := by rw [← hW0]; simp [go_sem]
  have z2 : W0.cell? ⟨w.heap.size, 2, none⟩ = some (.int .i64 2) := by rw [← hW0]; simp [go_sem]
  have z3 : W0.cell? ⟨w.heap.size, 3, none⟩ = some (.string ⟨#[120]⟩) := by rw [← hW0]; simp [go_sem]
  have H0 := Lib.hid (h.below hb0)
  have HC := Lib.hid (of_any H0.out 5 (by simp))
  rw [show idx (hasL 5) 0 [rW] = 0 by decide] at HC
  have HH := Lib.hid h
  have HB0 := Lib.hid hb0
  clear h hb0
  go_enter Tryz.func29, Tryz.ntmps29
  go_wp2_with fail
  refine HC.out.mono ?_
  rintro e w1 ⟨rfl, hb1⟩
  have H1 := Lib.hid (H0.out.below hb1)
  obtain ⟨c0, c1, c2⟩ := H1.out.cells
  have hdl := H1.out.lt
  obtain ⟨hok, y0, y1, y2, y3, y4, y5, y6, y7, y8⟩ := rec_own (k := 0) (c := rW) H1.out.own rfl
  simp only [rW, Nat.zero_mul, Nat.zero_add] at y0 y1 y2 y3 y4 y5 y6 y7 y8
  have hs1 := hb1.size
  have z0 := (hb1.cell (p := ⟨w.heap.size, 0, none⟩) hsz).trans z0
  have z1 := (hb1.cell (p := ⟨w.heap.size, 1, none⟩) hsz).trans z1
  have z2 := (hb1.cell (p := ⟨w.heap.size, 2, none⟩) hsz).trans z2
  have z3 := (hb1.cell (p := ⟨w.heap.size, 3, none⟩) hsz).trans z3
  have HB1 := Lib.hid (chain HB0.out hb1)
  have hw1 : w.heap.size < w1.heap.size := by omega
  have HK := Lib.hid (knew_none rW 2 rfl)
  unfold encRec at HK
  simp only [rW] at HK
  obtain ⟨W1, hW1⟩ : ∃ x, w1.alloc (.cells #[.int .i64 1, .bool true, .int .i64 4, .string ⟨#[121]⟩, .int .i64 5, .int .i64 2, .string ⟨#[98]⟩, .int .i64 0, .string ⟨#[]⟩] 32) = x := ⟨_, rfl⟩
  have hbW : Below w1.heap.size w1 W1 := by rw [← hW1]; exact (Below.refl _ _).alloc (Nat.le_refl _) _
  have HX1 := Lib.hid (show RecBox W1 w1.heap.size rW by rw [← hW1]; exact heap_alloc_new _ _)
  have HW1 := Lib.hid hW1
  clear hb1 hok HC hW1
  go_wp2_with fail
  rw [HW1.out]
  refine (HK.out _).mono ?_
  rintro e w2 ⟨rfl, hb2⟩
  have hU := unsent_any rW w2
  unfold encRec unsR at hU
  simp only [rW] at hU
  have HU := Lib.hid hU
  have HX2 := Lib.hid (HX1.out.below hb2)
  obtain ⟨q0, q1, q2, q3, q4, q5, q6, q7, q8⟩ := HX2.out.cells
  simp only [rW] at q0 q1 q2 q3 q4 q5 q6 q7 q8
  have hb12 := chain hbW hb2
  have z0 := (hb12.cell (p := ⟨w.heap.size, 0, none⟩) hw1).trans z0
  have z1 := (hb12.cell (p := ⟨w.heap.size, 1, none⟩) hw1).trans z1
  have z2 := (hb12.cell (p := ⟨w.heap.size, 2, none⟩) hw1).trans z2
  have z3 := (hb12.cell (p := ⟨w.heap.size, 3, none⟩) hw1).trans z3
  have HB12 := Lib.hid hb12
  have hw2 : w.heap.size < w2.heap.size := by have := hb12.size; omega
  clear hU hbW hb2 hb12 y0 y1 y2 y3 y4 y5 y6 y7 y8 c0 c1 c2
  go_wp2_with fail
  refine (HU.out).mono ?_
  rintro e w3 ⟨rfl, hb3⟩
  have HX3 := Lib.hid (HX2.out.below hb3)
  have z0 := (hb3.cell (p := ⟨w.heap.size, 0, none⟩) hw2).trans z0
  have z1 := (hb3.cell (p := ⟨w.heap.size, 1, none⟩) hw2).trans z1
  have z2 := (hb3.cell (p := ⟨w.heap.size, 2, none⟩) hw2).trans z2
  have z3 := (hb3.cell (p := ⟨w.heap.size, 3, none⟩) hw2).trans z3
  have HB13 := Lib.hid (chain HB12.out hb3)
  obtain ⟨hP1, hP2⟩ := HX3.out.put rW
  obtain ⟨W4, hW4⟩ : ∃ x, (((((((((w3.setCell ⟨w1.heap.size, 0, none⟩ (.int .i64 1)).setCell ⟨w1.heap.size, 1, none⟩ (.bool true)).setCell ⟨w1.heap.size, 2, none⟩ (.int .i64 4)).setCell ⟨w1.heap.size, 3, none⟩ (.string ⟨#[121]⟩)).setCell ⟨w1.heap.size, 4, none⟩ (.int .i64 5)).setCell ⟨w1.heap.size, 5, none⟩ (.int .i64 2)).setCell ⟨w1.heap.size, 6, none⟩ (.string ⟨#[98]⟩)).setCell ⟨w1.heap.size, 7, none⟩ (.int .i64 0)).setCell ⟨w1.heap.size, 8, none⟩ (.string ⟨#[]⟩)) = x := ⟨_, rfl⟩
  rw [show w3.setCells w1.heap.size 0 (cellsRec rW) = W4 from hW4] at hP1 hP2
  obtain ⟨i0, hi, hz0, hz1, hz2⟩ := rec_info0
  have HI1 := Lib.hid (show (Tryz.prog.info? 32).map (·.size) = some 9 by rw [hi]; simp [hz1])
  have HW4 := Lib.hid hW4
  have HP1 := Lib.hid hP1
  have HP2 := Lib.hid hP2
  have hw13 : w.heap.size ≠ w1.heap.size := by omega
  have hw3 : w.heap.size < w3.heap.size := by have := hb3.size; omega
  have z0 := (hP2.cell (p := ⟨w.heap.size, 0, none⟩) hw3 hw13).trans z0
  have z1 := (hP2.cell (p := ⟨w.heap.size, 1, none⟩) hw3 hw13).trans z1
  have z2 := (hP2.cell (p := ⟨w.heap.size, 2, none⟩) hw3 hw13).trans z2
  have z3 := (hP2.cell (p := ⟨w.heap.size, 3, none⟩) hw3 hw13).trans z3
  obtain ⟨p0, p1, p2, p3, p4, p5, p6, p7, p8⟩ := HX3.out.cells
  simp only [rW] at p0 p1 p2 p3 p4 p5 p6 p7 p8
  have f0 := HX3.out.free 0; have f1 := HX3.out.free 1; have f2 := HX3.out.free 2; have f3 := HX3.out.free 3; have f4 := HX3.out.free 4; have f5 := HX3.out.free 5; have f6 := HX3.out.free 6; have f7 := HX3.out.free 7; have f8 := HX3.out.free 8
  clear hi hz0 hz1 hz2 hW4 hP1 hP2 hb3 q0 q1 q2 q3 q4 q5 q6 q7 q8
  go_upto_region 13 with fail
  rw [HW4.out]
  have hs13 := HB13.out.size
  have hdn : d ≠ w1.heap.size := by omega
  have hgl := (H1.out.own.lt g rfl).2
  have hgn : g ≠ w1.heap.size := by omega
  have hD4 := (H1.out.below HB13.out).kept HP2.out hdn (fun k e h => by cases e; exact hgn h)
  obtain ⟨c0, c1, c2⟩ := hD4.cells
  have f1 := hD4.free 1
  obtain ⟨v1, v2⟩ := hD4.vb
  have HD4 := Lib.hid hD4
  have HX4 := Lib.hid HP1.out
  have HK14 := Lib.hid (show Kept (fun k => k = w1.heap.size) w1 W4 from (Kept.of_below HB13.out (fun _ => False)).trans HP2.out (fun _ _ h => h.elim) (fun _ _ h => h))
  have hrule2 : -9223372036854775808 ≤ rule := by omega
  obtain ⟨T, hT⟩ : ∃ T : ByteArray, (if rule = 2 then ⟨#[120]⟩ else ⟨#[121]⟩) = T := ⟨_, rfl⟩
  have HR := Lib.hid (show ∀ w, Calls Tryz.prog 54 #[.int .i64 rule, .string ⟨#[98]⟩, .string ⟨#[120]⟩, .string ⟨#[121]⟩] w (fun e w' => e = .returned (.string T) ∧ w' = w) by
    intro w
    rcases hrule with rfl | rfl
    · rw [if_neg (by decide)] at hT; subst hT
      exact (resolve_same1 _ _ _ w)
    · rw [if_pos rfl] at hT; subst hT
      exact (resolve_same2 _ _ _ w))
  have HT := Lib.hid hT
  obtain ⟨q0, q1, q2, q3, q4, q5, q6, q7, q8⟩ := HX4.out.cells
  simp only [rW] at q0 q1 q2 q3 q4 q5 q6 q7 q8
  have g2 := HX4.out.free 2
  have g3 := HX4.out.free 3
  have g5 := HX4.out.free 5
  have g6 := HX4.out.free 6
  clear hT hD4 p0 p1 p2 p3 p4 p5 p6 p7 p8 f0 f2 f3 f4 f5 f6 f7 f8
  go_wp2_with fail
  (refine wp_region_quiet_lit (by kernel_rfl) (by kernel_rfl) ?_; (repeat (any_goals (first | go_big_quiet_step ((go_at_call 54; exact Calls.quiet_of_same (HR.out _))) | quiet_step ((go_at_call 54; exact Calls.quiet_of_same (HR.out _))) | (refine wpQuiet_step (fun K hK => ?_); go_simp; split <;> (refine hK _ ?_; clear hK K))))); all_goals (refine wpQuiet_nil ?_; intro _ hw'; obtain ⟨nq, hw''⟩ := hw'; subst hw''))
  go_wp2_with fail
  obtain ⟨W5, hW5⟩ : ∃ x, W4.drewN nq = x := ⟨_, rfl⟩
  have hb5 : Below W4.heap.size W4 W5 := by rw [← hW5]; exact bN nq (Below.refl _ _)
  have HD5 := Lib.hid (HD4.out.below hb5)
  have HX5 := Lib.hid (HX4.out.below hb5)
  have hxl := HX4.out.lt
  have hw4 : w.heap.size < W4.heap.size := by have := HP2.out.size; omega
  have z0 := (hb5.cell (p := ⟨w.heap.size, 0, none⟩) hw4).trans z0
  have z1 := (hb5.cell (p := ⟨w.heap.size, 1, none⟩) hw4).trans z1
  have z2 := (hb5.cell (p := ⟨w.heap.size, 2, none⟩) hw4).trans z2
  have z3 := (hb5.cell (p := ⟨w.heap.size, 3, none⟩) hw4).trans z3
  obtain ⟨c0, c1, c2⟩ := HD5.out.cells
  have f1 := HD5.out.free 1
  obtain ⟨q0, q1, q2, q3, q4, q5, q6, q7, q8⟩ := HX5.out.cells
  simp only [rW] at q0 q1 q2 q3 q4 q5 q6 q7 q8
  have g2 := HX5.out.free 2
  have g3 := HX5.out.free 3
  have g5 := HX5.out.free 5
  have g6 := HX5.out.free 6
  have HB5 := Lib.hid hb5
  have HW5 := Lib.hid hW5
  have hne1 : ¬ w1.heap.size = d := fun e => hdn e.symm
  have hne2 : ¬ d = w1.heap.size := hdn
  have hne3 : ¬ w.heap.size = w1.heap.size := by omega
  have hwd : ¬ w.heap.size = d := by have := HH.out.lt; omega
  clear hb5 hW5 q0 q1 q4 q7 q8 c0 c2 z0 z1 z2 HR
  go_upto_region 14 with fail
  rw [HW5.out]
  obtain ⟨W6, hW6⟩ : ∃ x, (((W5.setCell ⟨d, 1, none⟩ (.int .i64 (ver + 1))).setCell ⟨w1.heap.size, 6, none⟩ (.string ⟨#[120]⟩)).setCell ⟨w1.heap.size, 5, none⟩ (.int .i64 (ver + 1))).drew = x := ⟨_, rfl⟩
  have hk1 := Kept.setCell (X := fun k => k = d) W5 (p := ⟨d, 1, none⟩) rfl (.int .i64 (ver + 1))
  have hk2 := Kept.setCell (X := fun k => k = w1.heap.size) (W5.setCell ⟨d, 1, none⟩ (.int .i64 (ver + 1))) (p := ⟨w1.heap.size, 6, none⟩) rfl (.string ⟨#[120]⟩)
  have hk3 := Kept.setCell (X := fun k => k = w1.heap.size) ((W5.setCell ⟨d, 1, none⟩ (.int .i64 (ver + 1))).setCell ⟨w1.heap.size, 6, none⟩ (.string ⟨#[120]⟩)) (p := ⟨w1.heap.size, 5, none⟩) rfl (.int .i64 (ver + 1))
  have hx1 := HX5.out.kept hk1 hne1
  have hx2 : RecBox _ w1.heap.size (1, true, 4, ⟨#[121]⟩, 5, 2, ⟨#[120]⟩, 0, ⟨#[]⟩) := hx1.store (k := 6) (u := .string ⟨#[120]⟩) (by rfl)
  have hx3 : RecBox _ w1.heap.size (1, true, 4, ⟨#[121]⟩, 5, ver + 1, ⟨#[120]⟩, 0, ⟨#[]⟩) := hx2.store (k := 5) (u := .int .i64 (ver + 1)) (by rfl)
  have hd1 := HD5.out.ver' (ver + 1) ⟨by omega, by omega⟩
  have hgn' : ∀ k, Value.ownBlock (.slice (some ⟨g, 0, none⟩) 1 cap) = some k → ¬ (k = w1.heap.size) := fun k e h => by cases e; exact hgn h
  have hd2 := (hd1.kept hk2 hdn hgn').kept hk3 hdn hgn'
  have HX6 := Lib.hid (show RecBox W6 w1.heap.size (1, true, 4, ⟨#[121]⟩, 5, ver + 1, ⟨#[120]⟩, 0, ⟨#[]⟩) by rw [← hW6]; exact hx3.below (Below.refl _ _).drew)
  have HD6 := Lib.hid (show Dk base W6 d (.slice (some ⟨g, 0, none⟩) 1 cap) [rW] (ver + 1) rule by rw [← hW6]; exact hd2.below (Below.refl _ _).drew)
  have hk13 : Kept (fun k => k = w1.heap.size ∨ k = d) W5 W6 := by
    rw [← hW6]
    exact ((hk1.trans hk2 (fun _ _ h => .inr h) (fun _ _ h => .inl h)).trans hk3 (fun _ _ h => h) (fun _ _ h => .inl h)).trans (Kept.drew (fun _ => False) _) (fun _ _ h => h) (fun _ _ h => h.elim)
  have HK16 := Lib.hid (show Kept (fun k => k = w1.heap.size ∨ k = d) w1 W6 from (HK14.out.trans (Kept.of_below HB5.out (fun _ => False)) (fun _ _ h => .inl h) (fun _ _ h => h.elim)).trans hk13 (fun _ _ h => h) (fun _ _ h => h))
  have hw5 : w.heap.size < W5.heap.size := by have := HB5.out.size; omega
  have Z3 := Lib.hid ((hk13.cell (p := ⟨w.heap.size, 3, none⟩) hw5 (fun e => e.elim hne3 hwd)).trans z3)
  have HW6 := Lib.hid hW6
  clear hk1 hk2 hk3 hx1 hx2 hx3 hd1 hd2 hk13 hW6
  go_cut [] from 29 to 176 (fun wx => W6 = wx)
  case first =>
    go_region_with (go_at_call 53; refine (next_raw d ver _ (by first | exact c1 | simpa using c1 | (simp [go_sem, hne1, hne2, c1])) (by first | exact f1 | simpa using f1 | (simp [go_sem, hne1, hne2, f1])) v1 v2).mono ?_; rintro e wN ⟨rfl, rfl⟩)
    all_goals
      go_wp2_with fail
      go_meet
      case rel => exact HW6.out.symm
  case rest =>
    obtain rfl := hcut
    obtain ⟨q0, q1, q2, q3, q4, q5, q6, q7, q8⟩ := HX6.out.cells
    simp only at q0 q1 q2 q3 q4 q5 q6 q7 q8
    have z3 := Z3.out
    have g2 := HX6.out.free 2
    have g3 := HX6.out.free 3
    clear c1 f1 g5 g6 hne1 hne2 hne3 hwd q0 q1 q4 q7 q8
    have hT := HT.out
    rcases hrule with rfl | rfl
    · rw [if_neg (by decide)] at hT
      subst hT
      go_upto_region 33 with fail
      obtain ⟨W7, rfl⟩ : ∃ x : World, x = W6 := ⟨_, rfl⟩
      have HD7 := HD6
      have HX7 := HX6
      have HK17 := HK16
      have HD8 := Lib.hid (HD7.out.below (Below.refl _ W7).drew)
      have HX8 := Lib.hid (HX7.out.below (Below.refl _ W7).drew)
      obtain ⟨W8, hW8⟩ : ∃ x, W7.drew = x := ⟨_, rfl⟩
      rw [hW8] at HD8 HX8
      obtain ⟨c0, c1, c2⟩ := HD8.out.cells
      have hOw := HD8.out.own
      have HTh := Lib.hid (show W8.there g (0 * 9) 9 from fun j hj => ⟨hOw.isSome (j := 0 * 9 + j) (by have : (rRec).n = 9 := rfl; rw [this]; simp; omega), hOw.free _⟩)
      have hst := hOw.store (k := 0) (by simp) (cs := cellsRec (1, true, 4, ⟨#[121]⟩, 5, ver + 1, ⟨#[120]⟩, 0, ⟨#[]⟩)) (c := (1, true, 4, ⟨#[121]⟩, 5, ver + 1, ⟨#[120]⟩, 0, ⟨#[]⟩)) (rec_rel _ _ _ (okRec_mk (Wf.of (by omega) (by omega)) (Wf.of (by omega) (by omega)) (by unfold maxTx; decide) (Wf.of (by omega) (by omega)) (Wf.of (by omega) (by omega)) (by unfold maxTx; decide) (Wf.of (by omega) (by omega)) (by unfold maxTx; decide)))
      have HST := Lib.hid hst
      obtain ⟨q0, q1, q2, q3, q4, q5, q6, q7, q8⟩ := HX8.out.cells
      simp only at q0 q1 q2 q3 q4 q5 q6 q7 q8
      have HW8 := Lib.hid (show { W7 with drawn := W7.drawn + 1 } = W8 from hW8)
      have HB8 := Lib.hid (show Below W7.heap.size W7 W8 by rw [← hW8]; exact (Below.refl _ W7).drew)
      clear hst hOw c1 c2 hW8 z3
      go_wp2_with fail
      refine wp_region_still_tail 7 (by kernel_rfl) (by kernel_rfl) ?_
      rw [HW8.out]
      simp only [List.take_succ_cons, List.take_zero, List.drop_succ_cons, List.drop_zero]
      repeat still_step
      refine wpStill_nil ?_
      refine wpList_store_mid rfl 32 _ _ rfl g (0 * 9) #[.int .i64 1, .bool true, .int .i64 4, .string ⟨#[121]⟩, .int .i64 5, .int .i64 (ver + 1), .string ⟨#[120]⟩, .int .i64 0, .string ⟨#[]⟩] rfl rfl HTh.out HI1.out (by simp [Value.oneCell']) ?_
      go_wp2_with fail
      go_ret
      have h6 := HST.out
      have hA : Kept (fun k => k = w1.heap.size ∨ k = d) w W7 := (Kept.of_below HB1.out (fun _ => False)).trans HK17.out (fun _ _ h => h.elim) (fun _ _ h => h)
      have hB : Kept (fun k => k = d) w W8 := hA.trans (Kept.of_below HB8.out (fun _ => False)) (fun k hk h => h.elim (fun e => by omega) id) (fun _ _ h => h.elim)
      refine ⟨rfl, (1, true, 4, ⟨#[121]⟩, 5, ver + 1, ⟨#[120]⟩, 0, ⟨#[]⟩), ver + 1, rfl, rfl, ?_, hB.trans h6.2 (fun _ _ h => .inr h) (fun _ _ h => .inl h)⟩
      have h7 : Dk base _ d (.slice (some ⟨g, 0, none⟩) 1 cap) [(1, true, 4, ⟨#[121]⟩, 5, ver + 1, ⟨#[120]⟩, 0, ⟨#[]⟩)] (ver + 1) _ := { HD8.out with
        blk := (h6.2.block d HD8.out.lt (fun e => HD8.out.ne (by rw [e]; rfl))).trans HD8.out.blk
        own := h6.1 }
      exact h7
    · rw [if_pos rfl] at hT
      subst hT
      go_upto_region 33 with fail
      obtain ⟨W7, hW7⟩ : ∃ x, (W6.setCell ⟨w1.heap.size, 3, none⟩ (.string ⟨#[120]⟩)).setCell ⟨w1.heap.size, 2, none⟩ (.int .i64 (ver + 1)) = x := ⟨_, rfl⟩
      rw [hW7]
      have hk1 := Kept.setCell (X := fun k => k = w1.heap.size) W6 (p := ⟨w1.heap.size, 3, none⟩) rfl (.string ⟨#[120]⟩)
      have hk2 := Kept.setCell (X := fun k => k = w1.heap.size) (W6.setCell ⟨w1.heap.size, 3, none⟩ (.string ⟨#[120]⟩)) (p := ⟨w1.heap.size, 2, none⟩) rfl (.int .i64 (ver + 1))
      have hx1 : RecBox _ w1.heap.size (1, true, 4, ⟨#[120]⟩, 5, ver + 1, ⟨#[120]⟩, 0, ⟨#[]⟩) := HX6.out.store (k := 3) (u := .string ⟨#[120]⟩) (by rfl)
      have hx2 : RecBox _ w1.heap.size (1, true, ver + 1, ⟨#[120]⟩, 5, ver + 1, ⟨#[120]⟩, 0, ⟨#[]⟩) := hx1.store (k := 2) (u := .int .i64 (ver + 1)) (by rfl)
      have HX7 := Lib.hid (show RecBox W7 w1.heap.size (1, true, ver + 1, ⟨#[120]⟩, 5, ver + 1, ⟨#[120]⟩, 0, ⟨#[]⟩) by rw [← hW7]; exact hx2)
      have HD7 := Lib.hid (show Dk base W7 d (.slice (some ⟨g, 0, none⟩) 1 cap) [rW] (ver + 1) 2 by rw [← hW7]; exact (HD6.out.kept hk1 hdn hgn').kept hk2 hdn hgn')
      have HK17 := Lib.hid (show Kept (fun k => k = w1.heap.size ∨ k = d) w1 W7 by rw [← hW7]; exact (HK16.out.trans hk1 (fun _ _ h => h) (fun _ _ h => .inl h)).trans hk2 (fun _ _ h => h) (fun _ _ h => .inl h))
      clear hk1 hk2 hx1 hx2 hW7 q2 q3 q5 q6 g2 g3 hgn'
      have HD8 := Lib.hid (HD7.out.below (Below.refl _ W7).drew)
      have HX8 := Lib.hid (HX7.out.below (Below.refl _ W7).drew)
      obtain ⟨W8, hW8⟩ : ∃ x, W7.drew = x := ⟨_, rfl⟩
      rw [hW8] at HD8 HX8
      obtain ⟨c0, c1, c2⟩ := HD8.out.cells
      have hOw := HD8.out.own
      have HTh := Lib.hid (show W8.there g (0 * 9) 9 from fun j hj => ⟨hOw.isSome (j := 0 * 9 + j) (by have : (rRec).n = 9 := rfl; rw [this]; simp; omega), hOw.free _⟩)
      have hst := hOw.store (k := 0) (by simp) (cs := cellsRec (1, true, ver + 1, ⟨#[120]⟩, 5, ver + 1, ⟨#[120]⟩, 0, ⟨#[]⟩)) (c := (1, true, ver + 1, ⟨#[120]⟩, 5, ver + 1, ⟨#[120]⟩, 0, ⟨#[]⟩)) (rec_rel _ _ _ (okRec_mk (Wf.of (by omega) (by omega)) (Wf.of (by omega) (by omega)) (by unfold maxTx; decide) (Wf.of (by omega) (by omega)) (Wf.of (by omega) (by omega)) (by unfold maxTx; decide) (Wf.of (by omega) (by omega)) (by unfold maxTx; decide)))
      have HST := Lib.hid hst
      obtain ⟨q0, q1, q2, q3, q4, q5, q6, q7, q8⟩ := HX8.out.cells
      simp only at q0 q1 q2 q3 q4 q5 q6 q7 q8
      have HW8 := Lib.hid (show { W7 with drawn := W7.drawn + 1 } = W8 from hW8)
      have HB8 := Lib.hid (show Below W7.heap.size W7 W8 by rw [← hW8]; exact (Below.refl _ W7).drew)
      clear hst hOw c1 c2 hW8 z3
      go_wp2_with fail
      refine wp_region_still_tail 7 (by kernel_rfl) (by kernel_rfl) ?_
      rw [HW8.out]
      simp only [List.take_succ_cons, List.take_zero, List.drop_succ_cons, List.drop_zero]
      repeat still_step
      refine wpStill_nil ?_
      refine wpList_store_mid rfl 32 _ _ rfl g (0 * 9) #[.int .i64 1, .bool true, .int .i64 (ver + 1), .string ⟨#[120]⟩, .int .i64 5, .int .i64 (ver + 1), .string ⟨#[120]⟩, .int .i64 0, .string ⟨#[]⟩] rfl rfl HTh.out HI1.out (by simp [Value.oneCell']) ?_
      go_wp2_with fail
      go_ret
      have h6 := HST.out
      have hA : Kept (fun k => k = w1.heap.size ∨ k = d) w W7 := (Kept.of_below HB1.out (fun _ => False)).trans HK17.out (fun _ _ h => h.elim) (fun _ _ h => h)
      have hB : Kept (fun k => k = d) w W8 := hA.trans (Kept.of_below HB8.out (fun _ => False)) (fun k hk h => h.elim (fun e => by omega) id) (fun _ _ h => h.elim)
      refine ⟨rfl, (1, true, ver + 1, ⟨#[120]⟩, 5, ver + 1, ⟨#[120]⟩, 0, ⟨#[]⟩), ver + 1, rfl, rfl, ?_, hB.trans h6.2 (fun _ _ h => .inr h) (fun _ _ h => .inl h)⟩
      have h7 : Dk base _ d (.slice (some ⟨g, 0, none⟩) 1 cap) [(1, true, ver + 1, ⟨#[120]⟩, 5, ver + 1, ⟨#[120]⟩, 0, ⟨#[]⟩)] (ver + 1) _ := { HD8.out with
        blk := (h6.2.block d HD8.out.lt (fun e => HD8.out.ne (by rw [e]; rfl))).trans HD8.out.blk
        own := h6.1 }
      exact h7
end Go.Proofs.YtefefpiealknlaaGreatDoor
