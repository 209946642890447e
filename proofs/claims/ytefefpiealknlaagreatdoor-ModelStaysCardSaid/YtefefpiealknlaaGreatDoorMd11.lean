/- What is expected: the program's Expect. -/
import Derived.Test.YtefefpiealknlaaGreatDoorMd10
import Derived.Test.YtefefpiealknlaaGreatDoorMd3
namespace Go.Proofs.YtefefpiealknlaaGreatDoor
open Go.RowKit Lift
set_option linter.unusedSimpArgs false
set_option linter.unusedVariables false

def OwnPost (rs : List Rec) (w : World) (e : Ending) (w' : World) : Prop := ∃ v, e = .returned v ∧ Own rRec (fun _ => True) w' w.heap.size 32 v rs ∧ Below w.heap.size w w'
theorem slAt_none {α : Type} {r : Rd α} {S : Nat → Prop} {w : World} {l : List α} (h : SlAt r S w none l) : l = [] := by
  cases l with
  | nil => rfl
  | cons a r' =>
    obtain ⟨b, off, cs, h1, _⟩ := h.get (k := 0) (c := a) rfl
    cases h1
set_option maxHeartbeats 1000000 in
set_option maxRecDepth 100000 in
theorem clone_rec (ao : Option Addr) (cap : Nat) (l : List Rec) (w : World) (hl : SlAt rRec (· < w.heap.size) w ao l) (hlen : l.length ≤ 1000) :
    Calls Tryz.prog 10 #[.slice ao l.length cap] w (OwnPost l w) := by
  have heq := fun (w : World) (a : Option Addr) (n c : Nat) => Lib.run_eql_slice_nil (P := Tryz.prog) w 26 32 a n c 0 0 Tryz.underlying26
  cases ao with
  | none =>
    obtain rfl := slAt_none hl
    go_enter Tryz.func10, Tryz.ntmps10
    go_wp2_with fail
    go_ret
    exact ⟨_, rfl, Own.nil _ _ _ _ _, Below.refl _ _⟩
  | some a0 =>
    obtain ⟨i0, hi, hz0, hz1, hz2⟩ := rec_info0
    have HI := Lib.hid hi; have HZ0 := Lib.hid hz0; have HZ1 := Lib.hid hz1; have HZ2 := Lib.hid hz2
    clear hi hz0 hz1 hz2
    go_enter Tryz.func10, Tryz.ntmps10
    go_wp2_with (first
      | (at_builtin; refine wpList_pushAll rRec rfl _ _ 26 rfl w.heap.size 32 i0 _ 96 Tryz.underlying26 HI.out HZ0.out HZ1.out HZ2.out rfl (by decide) (fun _ => True) _ [] rfl (own_made _ _ _ _ _ (by omega)) _ cap l rfl (by intro h; cases h) ((hl.old ((Below.refl _ _).alloc (Nat.le_refl _) _)).apart (fun k hk => by cases hk; exact Nat.le_refl _)) rec_one (by unfold maxLen; simp; omega) (by simp; omega) (by simp) ?_; intro v2 w2 hO2 hK2 hw2))
    have hB2 : Below w.heap.size w w2 := (Below.refl _ _).alloc (Nat.le_refl _) _ |>.trans (hK2.below (by simp) (fun k hk => by cases hk; exact Nat.le_refl _))
    clear hK2 hw2
    rw [List.nil_append] at hO2
    obtain ⟨ao2, cap2, rfl⟩ := hO2.form
    go_wp2_with fail
    go_ret
    exact ⟨_, rfl, hO2, hB2⟩
def ExpPost (l : List ByteArray) (w : World) (e : Ending) (w' : World) : Prop := ∃ va, e = .returned (.tuple #[va, .int .i64 0]) ∧ Own Rd.str (fun _ => True) w' w.heap.size 9 va l ∧ Below w.heap.size w w'
/-- What a way of reckoning leaves. -/
def ReckPost (B d : Nat) (L : List ByteArray) (rule : Int) (W : World) (e : Ending) (w' : World) : Prop := e = .returned (.bool true) ∧ ∃ v ver rs, textsR rs = L ∧ rs.length ≤ 1000 ∧ Dk B w' d v rs ver rule ∧ Below B W w'
theorem fast_enters (args : Array Value) (w : World) : (callFunc 12 args).run Tryz.prog w = .ok (.enter 12 args) w := by kernel_rfl
theorem slow_enters (args : Array Value) (w : World) : (callFunc 13 args).run Tryz.prog w = .ok (.enter 13 args) w := by kernel_rfl
theorem max4 (a b c e : Int) (ha : 0 ≤ a ∧ a ≤ 1000) (hb : 0 ≤ b ∧ b ≤ 1000) (hc : 0 ≤ c ∧ c ≤ 1000) (he : 0 ≤ e ∧ e ≤ 1000) : ∃ m, 0 ≤ m ∧ m ≤ 1000 ∧ ∀ w, (Builtin.max_ #[3, 3, 3, 3] 3 #[.int .i64 a, .int .i64 b, .int .i64 c, .int .i64 e]).run Tryz.prog w = .ok (.int .i64 m) w := by
  refine ⟨max (max (max a b) c) e, by omega, by omega, fun w => ?_⟩
  simp [Builtin.max_, Builtin.max2, go_sem]
  repeat' split
  all_goals first | omega | (simp; omega) | skip
def small3 (c : Rec) : Prop := (0 ≤ c.2.2.1 ∧ c.2.2.1 ≤ 1000) ∧ (0 ≤ c.2.2.2.2.2.1 ∧ c.2.2.2.2.2.1 ≤ 1000) ∧ (0 ≤ c.2.2.2.2.2.2.2.1 ∧ c.2.2.2.2.2.2.2.1 ≤ 1000)
/-- What the loop over the records keeps. -/
structure EInv (w : World) (d : Nat) (v : Value) (s : Sd) (by' : Int) (ver : Int) (wr : World) : Prop where
  dk : Dk w.heap.size wr d v s.r ver by'
  below : Below w.heap.size w wr
  box : SdBox wr w.heap.size s
  v0 : 0 ≤ ver
  v1 : ver ≤ 1000
  dn : d ≠ w.heap.size
  gn : v.ownBlock ≠ some w.heap.size
set_option maxHeartbeats 8000000 in
set_option maxRecDepth 100000 in
theorem expect_any (s : Sd) (w : World) (hs : SdOk w.heap.size w s) (hp : s.p = []) (by' : Int) (slow : Bool) (L : List ByteArray) (hver : ∀ c ∈ s.r, small3 c)
    (hreck : ∀ (W : World) (d : Nat) (v : Value) (ver : Int), Below w.heap.size w W → w.heap.size ≤ W.heap.size → Dk w.heap.size W d v s.r ver by' → 0 ≤ ver → ver ≤ 1000 → Calls Tryz.prog (if slow then 13 else 12) #[.pointer (some ⟨d, 0, none⟩), sdV s] W (ReckPost w.heap.size d L by' W)) :
    Calls Tryz.prog 6 #[sdV s, .int .i64 by', .bool slow] w (ExpPost (sortB L) w) := by
  obtain ⟨W0, hW0⟩ : ∃ W0, w.alloc (.cells #[.slice s.ea s.e.length s.ec, .slice s.ga s.g.length s.gc, .slice s.pa s.p.length s.pc, .slice s.ra s.r.length s.rc] 28) = W0 := ⟨_, rfl⟩
  have hb0 : Below w.heap.size w W0 := by rw [← hW0]; exact (Below.refl _ _).alloc (Nat.le_refl _) _
  have hsz : w.heap.size < W0.heap.size := by rw [← hW0]; simp
  have hbx : SdBox W0 w.heap.size s := by rw [← hW0]; exact ⟨by simp [go_sem], by simp [go_sem], by simp [go_sem], by simp [go_sem]⟩
  have hrl0 := hs.rl
  have hs0 := hs.old hb0
  have HC := Lib.hid (clone_rec s.ra s.rc s.r W0 hs0.r.here hrl0)
  have HRK := Lib.hid hreck
  have HVE := Lib.hid hver
  have hp0 : s.p.length = 0 := by rw [hp]; rfl
  have HBX := Lib.hid hbx
  obtain ⟨x0, x1, x2, x3⟩ := hbx
  have HW0 := Lib.hid hW0
  have HB0 := Lib.hid hb0
  unfold sdV
  rw [hp0] at x2 HW0 ⊢
  have HP0 := Lib.hid hp0
  have HS := Lib.hid hs
  clear hs hb0 hW0 hreck hver hs0 hp hp0
  go_enter Tryz.func6, Tryz.ntmps6
  go_upto_region 1 with fail
  rw [HW0.out]
  go_wp2_with fail
  refine HC.out.mono ?_
  rintro e w1 ⟨v, rfl, hO1, hb1⟩
  obtain ⟨ao, cap, rfl⟩ := hO1.form
  have hw1 : w.heap.size < w1.heap.size := by have := hb1.size; omega
  obtain ⟨W2, hW2⟩ : ∃ x, w1.alloc (.cells #[.slice ao s.r.length cap, .int .i64 0, .int .i64 by'] 45) = x := ⟨_, rfl⟩
  have hb2 : Below w1.heap.size w1 W2 := by rw [← hW2]; exact (Below.refl _ _).alloc (Nat.le_refl _) _
  have hO2 := (hO1.below hb2).rebase (Nat.le_of_lt hsz)
  have HI0 := Lib.hid (show EInv w w1.heap.size (.slice ao s.r.length cap) s by' 0 W2 from
    { dk := { blk := by rw [← hW2]; exact heap_alloc_new _ _
              own := hO2
              bb := Nat.le_of_lt hw1
              ne := fun e => by have := (hO1.lt _ e).2; omega
              vb := ⟨by omega, by omega⟩ }
      below := (HB0.out.trans (hb1.mono (Nat.le_of_lt hsz))).trans (hb2.mono (Nat.le_of_lt hw1))
      box := (HBX.out.old hb1 hsz).old hb2 hw1
      v0 := by omega
      v1 := by omega
      dn := by omega
      gn := fun e => by have := (hO1.lt _ e).1; omega })
  have HW2 := Lib.hid hW2
  clear hb1 hb2 hO1 hO2 hW2 x0 x1 x2 x3
  obtain ⟨c0, c1, c2⟩ := HI0.out.dk.cells
  go_upto_region 2 with fail
  rw [HW2.out]
  go_wp2_with fail
  go_loopw [27] (fun v27 wr => ∃ (k : Nat) (ver : Int), k ≤ s.r.length ∧ v27 = .int .i64 k ∧ Hid (EInv w w1.heap.size (.slice ao s.r.length cap) s by' ver wr)) (fun v27 _ => s.r.length - (intOf v27).toNat)
  case atStart => exact ⟨0, 0, by omega, rfl, HI0⟩
  case round =>
    obtain ⟨k, ver, hk, rfl, hI⟩ := hrel
    clear HI0 c0 c1 c2
    by_cases hkl : k < s.r.length
    · obtain ⟨c, hcl⟩ := some_at hkl
      obtain ⟨bb, oo, rfl, hs1, hb1, hok, y0, y1, y2, y3, y4, y5, y6, y7, y8⟩ := rec_get hI.out.dk.own.here hcl
      obtain ⟨hv1, hv2, hv3⟩ := HVE.out c (List.mem_of_getElem? hcl)
      obtain ⟨m, hm0, hm1, hq⟩ := max4 ver c.2.2.1 c.2.2.2.2.2.1 c.2.2.2.2.2.2.2.1 ⟨hI.out.v0, hI.out.v1⟩ hv1 hv2 hv3
      have hkl2 : (k : Int) < (s.r.length : Int) := by omega
      obtain ⟨W3, hW3⟩ : ∃ x, wr.alloc (.cells #[.int .i64 c.1, .bool c.2.1, .int .i64 c.2.2.1, .string c.2.2.2.1, .int .i64 c.2.2.2.2.1, .int .i64 c.2.2.2.2.2.1, .string c.2.2.2.2.2.2.1, .int .i64 c.2.2.2.2.2.2.2.1, .string c.2.2.2.2.2.2.2.2] 32) = x := ⟨_, rfl⟩
      have hb3 : Below wr.heap.size wr W3 := by rw [← hW3]; exact (Below.refl _ _).alloc (Nat.le_refl _) _
      have hX3 : RecBox W3 wr.heap.size c := by rw [← hW3]; exact heap_alloc_new _ _
      have HD3 := Lib.hid (hI.out.dk.below hb3)
      obtain ⟨q0, q1, q2, q3, q4, q5, q6, q7, q8⟩ := hX3.cells
      obtain ⟨c0, c1, c2⟩ := HD3.out.cells
      have f1 := HD3.out.free 1
      have hdl := HD3.out.lt
      have hxl := hX3.lt
      have hne : ¬ wr.heap.size = w1.heap.size := by have := hI.out.dk.lt; omega
      have HB3 := Lib.hid hb3
      have HW3 := Lib.hid hW3
      clear hb3 hW3 hX3 hcl hok hv1 hv2 hv3 q0 q1 q3 q4 q6 q8
      go_upto_region 5 with fail
      rw [HW3.out]
      clear y0 y1 y2 y3 y4 y5 y6 y7 y8
      obtain ⟨W4, hW4, hb4⟩ : ∃ W4, { W3 with drawn := W3.drawn + 1 } = W4 ∧ Below W3.heap.size W3 W4 := ⟨_, rfl, (Below.refl _ W3).drew⟩
      have c1 := (hb4.cell (p := ⟨w1.heap.size, 1, none⟩) hdl).trans c1
      have f1 := (hb4.frozen (p := ⟨w1.heap.size, 1, none⟩) hdl).trans f1
      have q2 := (hb4.cell (p := ⟨wr.heap.size, 2, none⟩) hxl).trans q2
      have q5 := (hb4.cell (p := ⟨wr.heap.size, 5, none⟩) hxl).trans q5
      have q7 := (hb4.cell (p := ⟨wr.heap.size, 7, none⟩) hxl).trans q7
      have HD4 := Lib.hid (HD3.out.below hb4)
      have HB4 := Lib.hid (chain HB3.out hb4)
      clear hb4 c0 c2
      refine wp_region_still_tail 14 (by kernel_rfl) (by kernel_rfl) ?_
      rw [hW4]
      clear hW4
      simp only [List.take_succ_cons, List.take_zero, List.drop_succ_cons, List.drop_zero]
      repeat still_step
      refine wpStill_nil ?_
      go_wp2_with fail
      have hk5 := Kept.setCell (X := fun k => k = w1.heap.size) W4 (p := ⟨w1.heap.size, 1, none⟩) rfl (.int .i64 m)
      have hbw := (hI.out.below.trans (HB4.out.mono hI.out.below.size))
      have HF := Lib.hid (show EInv w w1.heap.size (.slice (some ⟨bb, oo, none⟩) s.r.length cap) s by' m (W4.setCell ⟨w1.heap.size, 1, none⟩ (.int .i64 m)) from
        { dk := HD4.out.ver' m ⟨by omega, by omega⟩
          below := hbw.trans (hk5.below hbw.size (fun j hj => by omega))
          box := ((hI.out.box.old HB4.out (by have := hI.out.dk.lt; omega)).kept' hk5 (by have := HB4.out.size; have := hI.out.dk.lt; omega) (fun e => by omega))
          v0 := hm0
          v1 := hm1
          dn := hI.out.dn
          gn := hI.out.gn })
      clear hk5 hbw
      go_roundw
      case measure => simp [intOf]; omega
      case rel => exact ⟨k + 1, m, by omega, by go_num, HF⟩
    · obtain rfl : k = s.r.length := by omega
      obtain ⟨WL, rfl⟩ : ∃ x : World, x = wr := ⟨_, rfl⟩
      obtain ⟨x0, x1, x2, x3⟩ := hI.out.box
      rw [HP0.out] at x2
      go_wp2_with fail
      go_loopw [49] (fun v49 wr => v49 = .int .i64 0 ∧ WL = wr) (fun _ _ => 0)
      case atStart => exact ⟨rfl, rfl⟩
      case round =>
        obtain ⟨rfl, rfl⟩ := hrel
        have hRK := HRK.out WL w1.heap.size _ ver hI.out.below hI.out.below.size hI.out.dk hI.out.v0 hI.out.v1
        unfold sdV at hRK
        rw [HP0.out] at hRK
        have hfe := fast_enters
        have hse := slow_enters
        have HBL := Lib.hid hI.out.below
        have hIX := hI
        clear hI
        cases slow with
        | true =>
          rw [if_pos rfl] at hRK
          have hRK2 := Lib.hid hRK
          clear hRK hIX
          go_wp2_with fail
          refine hRK2.out.mono ?_
          rintro e w5 ⟨rfl, v5, ver5, rs', htr, hrl, hD5, hB5⟩
          obtain ⟨ao5, cap5, rfl⟩ := hD5.own.form
          obtain ⟨c0, c1, c2⟩ := hD5.cells
          have hB05 := HBL.out.trans hB5
          have hT := texts_any { e := [], g := [], p := [], r := rs', ea := none, ga := none, pa := none, ra := ao5, ec := 0, gc := 0, pc := 0, rc := cap5 } w5 { e := .inl rfl, g := .inl rfl, p := .inl rfl, r := hD5.own.here, el := by simp, gl := by simp, pl := by simp, rl := hrl }
          unfold sdV at hT
          simp only [List.length_nil] at hT
          rw [htr] at hT
          have HT := Lib.hid hT
          have HBF := Lib.hid hB05
          have hz5 := hB05.size
          clear hT hB05 hB5 hD5 c1 c2 htr hrl
          go_wp2_with fail
          refine HT.out.mono ?_
          rintro e w6 ⟨va, vb, rfl, _, hOb, hB6⟩
          have HOb := Lib.hid (hOb.rebase hz5)
          have HB6 := Lib.hid (HBF.out.trans (hB6.mono hz5))
          clear hOb hB6
          go_wp2_with fail
          go_ret2
          exact ⟨vb, rfl, HOb.out, HB6.out⟩
        | false =>
          rw [if_neg (by simp)] at hRK
          have hRK2 := Lib.hid hRK
          clear hRK hIX
          go_wp2_with fail
          refine hRK2.out.mono ?_
          rintro e w5 ⟨rfl, v5, ver5, rs', htr, hrl, hD5, hB5⟩
          obtain ⟨ao5, cap5, rfl⟩ := hD5.own.form
          obtain ⟨c0, c1, c2⟩ := hD5.cells
          have hB05 := HBL.out.trans hB5
          have hT := texts_any { e := [], g := [], p := [], r := rs', ea := none, ga := none, pa := none, ra := ao5, ec := 0, gc := 0, pc := 0, rc := cap5 } w5 { e := .inl rfl, g := .inl rfl, p := .inl rfl, r := hD5.own.here, el := by simp, gl := by simp, pl := by simp, rl := hrl }
          unfold sdV at hT
          simp only [List.length_nil] at hT
          rw [htr] at hT
          have HT := Lib.hid hT
          have HBF := Lib.hid hB05
          have hz5 := hB05.size
          clear hT hB05 hB5 hD5 c1 c2 htr hrl
          go_wp2_with fail
          refine HT.out.mono ?_
          rintro e w6 ⟨va, vb, rfl, _, hOb, hB6⟩
          have HOb := Lib.hid (hOb.rebase hz5)
          have HB6 := Lib.hid (HBF.out.trans (hB6.mono hz5))
          clear hOb hB6
          go_wp2_with fail
          go_ret2
          exact ⟨vb, rfl, HOb.out, HB6.out⟩
end Go.Proofs.YtefefpiealknlaaGreatDoor
