/- A contact that was not changed is put: the program's. -/
import Derived.Test.YtefefpiealknlaaGreatDoorMd4
import Derived.Deep.MidRow
import Derived.StillTailTactics
import Derived.Deep.RegionHeld3
import Derived.Deep.RegionLaw
import Derived.Deep.CutBlock
import Derived.Deep.CutRange
namespace Go.Proofs.YtefefpiealknlaaGreatDoor
open Go.RowKit Lift
set_option linter.unusedSimpArgs false
set_option linter.unusedVariables false

theorem rec_info0 : ∃ i0, Tryz.prog.info? 32 = some i0 ∧ i0.zero = some (.agg #[.int .i64 0, .bool false, .int .i64 0, .string ByteArray.empty, .int .i64 0, .int .i64 0, .string ByteArray.empty, .int .i64 0, .string ByteArray.empty]) ∧ i0.size = 9 ∧ i0.bytes = 96 := info_parts rec_info
theorem own_some2 {α : Type} {r : Rd α} {S : Nat → Prop} {w : World} {base : Nat} {e : TypeId} {v : Value} {l : List α} (h : Own r S w base e v l) (hl : l ≠ []) : ∃ g cap, v = .slice (some ⟨g, 0, none⟩) l.length cap := by
  obtain ⟨ao, cap, rfl⟩ := h.form
  have hn : Value.ownBlock (.slice ao l.length cap) ≠ none := by
    obtain ⟨xs, h1, _⟩ := h
    rcases h1.2 with ⟨e1, e2⟩ | ⟨g, cap', cur, e1, _⟩
    · exact absurd (List.eq_nil_of_length_eq_zero e2) hl
    · injection e1 with e1; subst e1; simp [Value.ownBlock]
  obtain ⟨g, rfl⟩ := h.block hn
  exact ⟨g, cap, rfl⟩

theorem Dk.store {base : Nat} {w w' : World} {d g cap : Nat} {rs : List Rec} {ver rule : Int} (h : Dk base w d (.slice (some ⟨g, 0, none⟩) rs.length cap) rs ver rule) (hO : Own rRec (fun _ => True) w' base 32 (.slice (some ⟨g, 0, none⟩) rs.length cap) rs) (hk : Kept (fun k => k = g) w w') : Dk base w' d (.slice (some ⟨g, 0, none⟩) rs.length cap) rs ver rule :=
  { h with
    blk := (hk.block d h.lt (fun e => h.ne (by rw [e]; rfl))).trans h.blk
    own := hO }
def DkPost (base d : Nat) (v : Value) (rs : List Rec) (ver rule : Int) (w : World) (e : Ending) (w' : World) : Prop := e = .returned (.bool true) ∧ Dk base w' d v rs ver rule ∧ Kept (fun k => some k = v.ownBlock) w w'
/-- A record in a box of its own. -/
def RecBox (w : World) (b : Nat) (c : Rec) : Prop := w.heap[b]? = some (.cells (cellsRec c).toArray 32 (0, 0))
section
variable {w w' : World} {b : Nat} {c : Rec}
theorem RecBox.lt (h : RecBox w b c) : b < w.heap.size := (Array.getElem?_eq_some_iff.1 h).1
theorem RecBox.cells (h : RecBox w b c) : w.cell? ⟨b, 0, none⟩ = some (.int .i64 c.1) ∧ w.cell? ⟨b, 1, none⟩ = some (.bool c.2.1) ∧ w.cell? ⟨b, 2, none⟩ = some (.int .i64 c.2.2.1) ∧ w.cell? ⟨b, 3, none⟩ = some (.string c.2.2.2.1) ∧ w.cell? ⟨b, 4, none⟩ = some (.int .i64 c.2.2.2.2.1) ∧
    w.cell? ⟨b, 5, none⟩ = some (.int .i64 c.2.2.2.2.2.1) ∧ w.cell? ⟨b, 6, none⟩ = some (.string c.2.2.2.2.2.2.1) ∧ w.cell? ⟨b, 7, none⟩ = some (.int .i64 c.2.2.2.2.2.2.2.1) ∧ w.cell? ⟨b, 8, none⟩ = some (.string c.2.2.2.2.2.2.2.2) :=
  ⟨cell_of_row w _ _ _ _ _ h, cell_of_row w _ _ _ _ _ h, cell_of_row w _ _ _ _ _ h, cell_of_row w _ _ _ _ _ h, cell_of_row w _ _ _ _ _ h, cell_of_row w _ _ _ _ _ h, cell_of_row w _ _ _ _ _ h, cell_of_row w _ _ _ _ _ h, cell_of_row w _ _ _ _ _ h⟩
theorem RecBox.free (h : RecBox w b c) (i : Nat) : w.frozen? ⟨b, i, none⟩ = false := frozen_of_row w _ _ _ _ h
theorem RecBox.there (h : RecBox w b c) : w.there b 0 9 := by
  intro j hj
  refine ⟨?_, h.free _⟩
  obtain ⟨h0, h1, h2, h3, h4, h5, h6, h7, h8⟩ := h.cells
  match j, hj with
  | 0, _ => rw [h0]; rfl
  | 1, _ => rw [h1]; rfl
  | 2, _ => rw [h2]; rfl
  | 3, _ => rw [h3]; rfl
  | 4, _ => rw [h4]; rfl
  | 5, _ => rw [h5]; rfl
  | 6, _ => rw [h6]; rfl
  | 7, _ => rw [h7]; rfl
  | 8, _ => rw [h8]; rfl
theorem RecBox.kept {X : Nat → Prop} (h : RecBox w b c) (hk : Kept X w w') (hb : ¬ X b) : RecBox w' b c := (hk.block b h.lt hb).trans h
theorem RecBox.below (h : RecBox w b c) (hb : Below w.heap.size w w') : RecBox w' b c := (hb.block b h.lt).trans h
theorem RecBox.put (h : RecBox w b c) (c' : Rec) : RecBox (w.setCells b 0 (cellsRec c')) b c' ∧ Kept (fun k => k = b) w (w.setCells b 0 (cellsRec c')) := by
  have h1 := heap_setCell_same w b 0 _ _ (.int .i64 c'.1) h
  have h2 := heap_setCell_same _ b 1 _ _ (.bool c'.2.1) h1
  have h3 := heap_setCell_same _ b 2 _ _ (.int .i64 c'.2.2.1) h2
  have h4 := heap_setCell_same _ b 3 _ _ (.string c'.2.2.2.1) h3
  have h5 := heap_setCell_same _ b 4 _ _ (.int .i64 c'.2.2.2.2.1) h4
  have h6 := heap_setCell_same _ b 5 _ _ (.int .i64 c'.2.2.2.2.2.1) h5
  have h7 := heap_setCell_same _ b 6 _ _ (.string c'.2.2.2.2.2.2.1) h6
  have h8 := heap_setCell_same _ b 7 _ _ (.int .i64 c'.2.2.2.2.2.2.2.1) h7
  have h9 := heap_setCell_same _ b 8 _ _ (.string c'.2.2.2.2.2.2.2.2) h8
  have e2 : w.setCells b 0 (cellsRec c') = (((((((((w.setCell ⟨b, 0, none⟩ (.int .i64 c'.1)).setCell ⟨b, 1, none⟩ (.bool c'.2.1)).setCell ⟨b, 2, none⟩ (.int .i64 c'.2.2.1)).setCell ⟨b, 3, none⟩ (.string c'.2.2.2.1)).setCell ⟨b, 4, none⟩ (.int .i64 c'.2.2.2.2.1)).setCell ⟨b, 5, none⟩ (.int .i64 c'.2.2.2.2.2.1)).setCell ⟨b, 6, none⟩ (.string c'.2.2.2.2.2.2.1)).setCell ⟨b, 7, none⟩ (.int .i64 c'.2.2.2.2.2.2.2.1)).setCell ⟨b, 8, none⟩ (.string c'.2.2.2.2.2.2.2.2)) := rfl
  rw [e2]
  refine ⟨?_, (((((((((Kept.refl (fun k => k = b) w).set rfl).set rfl).set rfl).set rfl).set rfl).set rfl).set rfl).set rfl).set rfl⟩
  unfold RecBox
  rw [h9]
  simp [cellsRec]
theorem RecBox.store (h : RecBox w b c) {k : Nat} {u : Value} {c' : Rec} (hc : (cellsRec c).toArray.setIfInBounds k u = (cellsRec c').toArray) : RecBox (w.setCell ⟨b, k, none⟩ u) b c' := by
  unfold RecBox
  rw [heap_setCell_same w b k _ _ u h, hc]
end
set_option maxHeartbeats 8000000 in
set_option maxRecDepth 100000 in
theorem put_stay {base : Nat} {w : World} {d : Nat} {v : Value} {rs : List Rec} {ver rule : Int} (h : Dk base w d v rs ver rule) (hlen : rs.length ≤ 1000) (x : Ent) (hx : okEnt x) (i : Nat) (r : Rec) (hi : idx (hasL x.1) 0 rs = (i : Int)) (hr : rs[i]? = some r)
    (h0 : r.2.2.2.2.2.2.2.1 = 0) (h1 : r.2.2.2.2.2.2.2.2 = ⟨#[]⟩) (hb : r.2.2.2.2.2.2.1 = x.2.2.2) (hh : r.2.2.2.2.2.1 = x.2.2.1) (hv : x.2.1 = 0) (hs : 0 < x.2.2.1) :
    Calls Tryz.prog 29 #[.pointer (some ⟨d, 0, none⟩), encEnt x, .bool true] w (DkPost base d v rs ver rule w) := by
  obtain ⟨g, cap, rfl⟩ : ∃ g cap, v = .slice (some ⟨g, 0, none⟩) rs.length cap := own_some2 h.own (by intro e; rw [e] at hr; simp at hr)
  obtain ⟨x0, x1, x2, x3⟩ := x
  obtain ⟨r0, r1, r2, r3, r4, r5, r6, r7, r8⟩ := r
  simp only at hi hx h0 h1 hb hh hv hs
  subst h0 h1 hb hh hv
  have hil : i < rs.length := (List.getElem?_eq_some_iff.1 hr).1
  obtain ⟨W0, hW0⟩ : ∃ W0, w.alloc (.cells #[.int .i64 x0, .int .i64 0, .int .i64 r5, .string r6] 30) = W0 := ⟨_, rfl⟩
  have hb0 : Below w.heap.size w W0 := by rw [← hW0]; exact (Below.refl _ _).alloc (Nat.le_refl _) _
  have hsz : w.heap.size < W0.heap.size := by rw [← hW0]; simp
  have z0 : W0.cell? ⟨w.heap.size, 0, none⟩ = some (.int .i64 x0) := by rw [← hW0]; simp [go_sem]
  have z1 : W0.cell? ⟨w.heap.size, 1, none⟩ = some (.int .i64 0) := by rw [← hW0]; simp [go_sem]
  have z2 : W0.cell? ⟨w.heap.size, 2, none⟩ = some (.int .i64 r5) := by rw [← hW0]; simp [go_sem]
  have z3 : W0.cell? ⟨w.heap.size, 3, none⟩ = some (.string r6) := by rw [← hW0]; simp [go_sem]
  have H0 := Lib.hid (h.below hb0)
  have HC := Lib.hid (of_any H0.out x0 hlen)
  rw [hi] at HC
  have HH := Lib.hid h
  have HB0 := Lib.hid hb0
  have HRR := Lib.hid hr
  have hd0 : decide ((i : Int) < 0) = false := by simp
  have hi0 : (i : Int) < (rs.length : Int) := by omega
  clear h hi hr hb0
  unfold encEnt
  simp only
  go_enter Tryz.func29, Tryz.ntmps29
  go_wp2_with fail
  refine HC.out.mono ?_
  rintro e w1 ⟨rfl, hb1⟩
  have H1 := Lib.hid (H0.out.below hb1)
  obtain ⟨c0, c1, c2⟩ := H1.out.cells
  have hdl := H1.out.lt
  obtain ⟨hok, y0, y1, y2, y3, y4, y5, y6, y7, y8⟩ := rec_own H1.out.own HRR.out
  simp only at y0 y1 y2 y3 y4 y5 y6 y7 y8
  have hs1 := hb1.size
  have z0 := (hb1.cell (p := ⟨w.heap.size, 0, none⟩) hsz).trans z0
  have z1 := (hb1.cell (p := ⟨w.heap.size, 1, none⟩) hsz).trans z1
  have z2 := (hb1.cell (p := ⟨w.heap.size, 2, none⟩) hsz).trans z2
  have z3 := (hb1.cell (p := ⟨w.heap.size, 3, none⟩) hsz).trans z3
  have HB1 := Lib.hid (chain HB0.out hb1)
  have hw1 : w.heap.size < w1.heap.size := by omega
  have HK := Lib.hid (knew_none (r0, r1, r2, r3, r4, r5, r6, 0, ⟨#[]⟩) r5 rfl)
  unfold encRec at HK
  simp only at HK
  obtain ⟨W1, hW1⟩ : ∃ x, w1.alloc (.cells #[.int .i64 r0, .bool r1, .int .i64 r2, .string r3, .int .i64 r4, .int .i64 r5, .string r6, .int .i64 0, .string ⟨#[]⟩] 32) = x := ⟨_, rfl⟩
  have hbW : Below w1.heap.size w1 W1 := by rw [← hW1]; exact (Below.refl _ _).alloc (Nat.le_refl _) _
  have HX1 := Lib.hid (show RecBox W1 w1.heap.size (r0, r1, r2, r3, r4, r5, r6, 0, ⟨#[]⟩) by rw [← hW1]; exact heap_alloc_new _ _)
  have HW1 := Lib.hid hW1
  clear hb1 hok HC hW1
  go_wp2_with fail
  rw [HW1.out]
  refine (HK.out _).mono ?_
  rintro e w2 ⟨rfl, hb2⟩
  have hU := unsent_any (r0, r1, r2, r3, r4, r5, r6, 0, ⟨#[]⟩) w2
  unfold encRec unsR at hU
  simp only at hU
  have HU := Lib.hid hU
  have HX2 := Lib.hid (HX1.out.below hb2)
  obtain ⟨q0, q1, q2, q3, q4, q5, q6, q7, q8⟩ := HX2.out.cells
  simp only at q0 q1 q2 q3 q4 q5 q6 q7 q8
  have hb12 := chain hbW hb2
  have z0 := (hb12.cell (p := ⟨w.heap.size, 0, none⟩) hw1).trans z0
  have z1 := (hb12.cell (p := ⟨w.heap.size, 1, none⟩) hw1).trans z1
  have z2 := (hb12.cell (p := ⟨w.heap.size, 2, none⟩) hw1).trans z2
  have z3 := (hb12.cell (p := ⟨w.heap.size, 3, none⟩) hw1).trans z3
  have HB12 := Lib.hid hb12
  have hw2 : w.heap.size < w2.heap.size := by have := hb12.size; omega
  clear hU hbW hb2 hb12 y0 y1 y2 y3 y4 y5 y6 y7 y8 c0 c1 c2
  go_wp2_with fail
  refine (HU.out).mono ?_
  rintro e w3 ⟨rfl, hb3⟩
  have HX3 := Lib.hid (HX2.out.below hb3)
  have z0 := (hb3.cell (p := ⟨w.heap.size, 0, none⟩) hw2).trans z0
  have z1 := (hb3.cell (p := ⟨w.heap.size, 1, none⟩) hw2).trans z1
  have z2 := (hb3.cell (p := ⟨w.heap.size, 2, none⟩) hw2).trans z2
  have z3 := (hb3.cell (p := ⟨w.heap.size, 3, none⟩) hw2).trans z3
  have HB13 := Lib.hid (chain HB12.out hb3)
  obtain ⟨hP1, hP2⟩ := HX3.out.put (r0, r1, r2, r3, r4, r5, r6, 0, ⟨#[]⟩)
  obtain ⟨W4, hW4⟩ : ∃ x, (((((((((w3.setCell ⟨w1.heap.size, 0, none⟩ (.int .i64 r0)).setCell ⟨w1.heap.size, 1, none⟩ (.bool r1)).setCell ⟨w1.heap.size, 2, none⟩ (.int .i64 r2)).setCell ⟨w1.heap.size, 3, none⟩ (.string r3)).setCell ⟨w1.heap.size, 4, none⟩ (.int .i64 r4)).setCell ⟨w1.heap.size, 5, none⟩ (.int .i64 r5)).setCell ⟨w1.heap.size, 6, none⟩ (.string r6)).setCell ⟨w1.heap.size, 7, none⟩ (.int .i64 0)).setCell ⟨w1.heap.size, 8, none⟩ (.string ⟨#[]⟩)) = x := ⟨_, rfl⟩
  rw [show w3.setCells w1.heap.size 0 (cellsRec (r0, r1, r2, r3, r4, r5, r6, 0, ⟨#[]⟩)) = W4 from hW4] at hP1 hP2
  obtain ⟨i0, hi, hz0, hz1, hz2⟩ := rec_info0
  have HI1 := Lib.hid (show (Tryz.prog.info? 32).map (·.size) = some 9 by rw [hi]; simp [hz1])
  have HW4 := Lib.hid hW4
  have HP1 := Lib.hid hP1
  have HP2 := Lib.hid hP2
  have hw13 : w.heap.size ≠ w1.heap.size := by omega
  have hw3 : w.heap.size < w3.heap.size := by have := hb3.size; omega
  have z0 := (hP2.cell (p := ⟨w.heap.size, 0, none⟩) hw3 hw13).trans z0
  have z1 := (hP2.cell (p := ⟨w.heap.size, 1, none⟩) hw3 hw13).trans z1
  have z2 := (hP2.cell (p := ⟨w.heap.size, 2, none⟩) hw3 hw13).trans z2
  have z3 := (hP2.cell (p := ⟨w.heap.size, 3, none⟩) hw3 hw13).trans z3
  have hseen : decide (0 < r5) = true := by simpa using hs
  obtain ⟨p0, p1, p2, p3, p4, p5, p6, p7, p8⟩ := HX3.out.cells
  simp only at p0 p1 p2 p3 p4 p5 p6 p7 p8
  have f0 := HX3.out.free 0; have f1 := HX3.out.free 1; have f2 := HX3.out.free 2; have f3 := HX3.out.free 3; have f4 := HX3.out.free 4; have f5 := HX3.out.free 5; have f6 := HX3.out.free 6; have f7 := HX3.out.free 7; have f8 := HX3.out.free 8
  clear hi hz0 hz1 hz2 hW4 hP1 hP2 hb3 q0 q1 q2 q3 q4 q5 q6 q7 q8
  go_upto_region 21 with fail
  rw [HW4.out]
  have HX4 := Lib.hid HP1.out
  obtain ⟨q0, q1, q2, q3, q4, q5, q6, q7, q8⟩ := HX4.out.cells
  simp only at q5 q6
  have g5 := HX4.out.free 5
  have g6 := HX4.out.free 6
  clear q0 q1 q2 q3 q4 q7 q8 p0 p1 p2 p3 p4 p5 p6 p7 p8 f0 f1 f2 f3 f4 f5 f6 f7 f8
  have hK4 := HP2.out
  obtain ⟨W5, hW5⟩ : ∃ x, ((W4.setCell ⟨w1.heap.size, 6, none⟩ (.string r6)).setCell ⟨w1.heap.size, 5, none⟩ (.int .i64 r5)).drew = x := ⟨_, rfl⟩
  have HX5 := Lib.hid (show RecBox W5 w1.heap.size (r0, r1, r2, r3, r4, r5, r6, 0, ⟨#[]⟩) from by
    rw [← hW5]
    exact (RecBox.store (c' := (r0, r1, r2, r3, r4, r5, r6, 0, ⟨#[]⟩)) (RecBox.store (c' := (r0, r1, r2, r3, r4, r5, r6, 0, ⟨#[]⟩)) HX4.out (by simp [cellsRec])) (by simp [cellsRec])).below (Below.refl _ _).drew)
  have hK35 : Kept (fun k => k = w1.heap.size) w3 W5 := by
    rw [← hW5]
    exact ((hK4.set rfl).set rfl).trans (Kept.drew (fun _ => False) _) (fun _ _ h => h) (fun _ _ h => h.elim)
  have HW5 := Lib.hid hW5
  have hs13 := HB13.out.size
  have hdn : d ≠ w1.heap.size := by omega
  have hgl := (H1.out.own.lt g rfl).2
  have hgn : g ≠ w1.heap.size := by omega
  have hD3 := H1.out.below HB13.out
  have hD5 := hD3.kept hK35 hdn (fun k e h => by cases e; exact hgn h)
  have HD5 := Lib.hid hD5
  have HK15 := Lib.hid (show Kept (fun k => k = w1.heap.size) w1 W5 from (Kept.of_below HB13.out (fun _ => False)).trans hK35 (fun _ _ h => h.elim) (fun _ _ h => h))
  clear hW5 hK35 hK4 hD3 hD5 hs13
  go_region_law (fail)
  all_goals
    rw [HW5.out]
    clear q5 q6 g5 g6 z0 z1 z2 z3
    obtain ⟨W6, hW6, hbd⟩ : ∃ W6, { W5 with drawn := W5.drawn + 1 } = W6 ∧ Below W5.heap.size W5 W6 := ⟨_, rfl, (Below.refl _ W5).drew⟩
    have HD6 := Lib.hid (HD5.out.below hbd)
    have HX6 := Lib.hid (HX5.out.below hbd)
    obtain ⟨c0, c1, c2⟩ := HD6.out.cells
    have hOw := HD6.out.own
    have hOw' : Own rRec (fun _ => True ∧ True) W6 base 32 (.slice (some ⟨g, 0, none⟩) rs.length cap) rs := hOw.flat rec_flat (Kept.refl (fun _ => False) _) (fun _ _ h => h)
    have HTh := Lib.hid (show W6.there g (i * 9) 9 from fun j hj => ⟨hOw.isSome (j := i * 9 + j) (by have : (rRec).n = 9 := rfl; rw [this]; omega), hOw.free _⟩)
    have hst := hOw.store (k := i) hil (cs := cellsRec (r0, r1, r2, r3, r4, r5, r6, 0, ⟨#[]⟩)) (c := (r0, r1, r2, r3, r4, r5, r6, 0, ⟨#[]⟩)) (rec_rel _ _ _ (rec_each H1.out.own.here _ (List.mem_of_getElem? HRR.out)))
    have hsame : rs.set i (r0, r1, r2, r3, r4, r5, r6, 0, ⟨#[]⟩) = rs := by
      have h1 := HRR.out
      apply List.ext_getElem?
      intro j
      rw [List.getElem?_set]
      split
      · rename_i e; subst e; rw [h1]; first | done | simp [hil]
      · rfl
    rw [hsame] at hst
    have HST := Lib.hid hst
    obtain ⟨q0, q1, q2, q3, q4, q5, q6, q7, q8⟩ := HX6.out.cells
    simp only at q0 q1 q2 q3 q4 q5 q6 q7 q8
    have HBD := Lib.hid hbd
    have HW6 := Lib.hid hW6
    clear hst hsame hOw hOw' c1 c2 hbd hW6
    go_wp2_with fail
    refine wp_region_still_tail 7 (by kernel_rfl) (by kernel_rfl) ?_
    rw [HW6.out]
    simp only [List.take_succ_cons, List.take_zero, List.drop_succ_cons, List.drop_zero]
    repeat still_step
    refine wpStill_nil ?_
    refine wpList_store_mid rfl 32 _ _ rfl g (i * 9) #[.int .i64 r0, .bool r1, .int .i64 r2, .string r3, .int .i64 r4, .int .i64 r5, .string r6, .int .i64 0, .string ⟨#[]⟩] rfl rfl HTh.out HI1.out (by simp [Value.oneCell']) ?_
    go_wp2_with fail
    go_ret
    have h6 := HST.out
    have hA : Kept (fun k => k = w1.heap.size) w W5 := (Kept.of_below HB1.out (fun _ => False)).trans HK15.out (fun _ _ h => h.elim) (fun _ _ h => h)
    have hB : Kept (fun _ => False) w W6 := hA.trans (Kept.of_below HBD.out (fun _ => False)) (fun k hk h => by omega) (fun _ _ h => h)
    exact ⟨rfl, HD6.out.store h6.1 h6.2, hB.trans h6.2 (fun _ _ h => h.elim) (fun k _ h => by rw [h]; rfl)⟩
end Go.Proofs.YtefefpiealknlaaGreatDoor
