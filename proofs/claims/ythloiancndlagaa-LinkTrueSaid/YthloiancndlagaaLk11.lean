/- LinkDoes: one round of the law. -/
import Derived.Test.YthloiancndlagaaLk10
import Derived.Deep.RegionHeld3
namespace Go.Proofs.Ythloiancndlagaa
open Go.ChangeShapes Go.WideShapes Go.ChangeAt Go.RowKit Lift Crc
set_option linter.unusedSimpArgs false
set_option linter.unusedVariables false


theorem box_keep {b X o : Nat} {v : Value} {w w' : World} {u : Value} (hK : Kept (foot b v) w w') (hx : X < w.heap.size) (hn : ∀ k, foot b v k → k < X) (h : w.cell? ⟨X, o, none⟩ = some u) : w'.cell? ⟨X, o, none⟩ = some u :=
  (hK.cell (p := ⟨X, o, none⟩) hx (fun hf => Nat.lt_irrefl _ (hn X hf))).trans h
/-- What is known behind both calls, for the comparison of lengths. -/
theorem Both.seven {B b1 b2 : Nat} {v1 v2 : Value} {room : Nat} {l : List Pk} {w6 : World} (h : Both B b1 b2 v1 v2 room l w6) :
    ∃ W7 ao cap, { w6 with drawn := w6.drawn + 1 } = W7 ∧ Both B b1 b2 v1 v2 room l W7 ∧ Below B w6 W7 ∧ W7.cell? ⟨b2, 1, none⟩ = some (.slice ao l.length cap) ∧ Hid (Calls Try.prog 22 #[.pointer (some ⟨b1, 0, none⟩)] W7 (fun e w' => e = .returned (.int .i64 (l.length : Nat)) ∧ w' = W7)) := by
  have h7 := h.step (Below.refl _ w6).drew
  obtain ⟨ao, cap, e⟩ := h7.r.own.form
  refine ⟨_, ao, cap, rfl, h7, (Below.refl _ w6).drew, by rw [← e]; exact h7.r.c1, Lib.hid ((len_any h7.a).mono fun _ _ ⟨x, y⟩ => ⟨x, y.symm⟩)⟩
theorem rOp_at : rOp.at Try.prog 34 := Rd.at_struct Try.underlying34 (by kernel_rfl) (Rd.atF_cons (Rd.at_int Try.underlying3 (by kernel_rfl)) rfl (Rd.atF_cons (Rd.at_int Try.underlying3 (by kernel_rfl)) rfl (Rd.atF_cons (Rd.at_int Try.underlying3 (by kernel_rfl)) rfl (Rd.atF_cons (Rd.at_int Try.underlying5 (by kernel_rfl)) rfl (Rd.atF_one (Rd.at_str Try.underlying9 (by kernel_rfl)) rfl)))))
theorem at_22 : rOp.slice.at Try.prog 22 := Rd.at_slice Try.underlying22 (by kernel_rfl) rOp_at (by decide)
set_option maxHeartbeats 16000000 in
set_option maxRecDepth 100000 in
theorem law_does (room : Int) (hwf : Wf room) (ao : Option Addr) (cap : Nat) (l : List Op) (w : World) (h : SlArg rOp w ao cap l) :
    Calls Try.prog 4 #[.int .i64 room, .slice ao l.length cap] w (TruePost w) := by
  have hll : l.length ≤ maxLen := Nat.le_trans h.le h.max
  have HLI := Lib.hid (light_any ao cap l w h.at' hll)
  by_cases hr : room < 1 ∨ 1000 < room
  · have HN1 := Lib.hid (new_no room hr w)
    have HN2 := Lib.hid (new_no_ref room hr w)
    clear h hll hr
    go_enter Try.func4, Try.ntmps4
    go_wp2_with fail
    refine HLI.out.mono ?_
    rintro e w0 ⟨b, rfl, rfl, _⟩
    cases b with
    | false =>
      go_wp2_with fail
      go_ret
      exact ⟨rfl, Below.refl _ _⟩
    | true =>
      go_wp2_with fail
      refine HN1.out.mono ?_
      rintro e w1 ⟨rfl, rfl⟩
      go_wp2_with fail
      refine HN2.out.mono ?_
      rintro e w1 ⟨rfl, rfl⟩
      go_wp2_with fail
      go_ret
      exact ⟨rfl, Below.refl _ _⟩
  · obtain ⟨rm, hrm⟩ : ∃ rm : Nat, room = (rm : Int) := ⟨room.toNat, by omega⟩
    subst hrm
    have hrm1 : rm ≤ 1000 := by omega
    have HN1 := Lib.hid (new_yes rm (by omega) (by omega) w)
    obtain ⟨W1, hW1⟩ : ∃ W1, w.alloc (.cells #[.int .i64 rm, .slice none 0 0] 51) = W1 := ⟨_, rfl⟩
    have hb1 : Below w.heap.size w W1 := by rw [← hW1]; exact (Below.refl _ _).alloc (Nat.le_refl _) _
    have hz1 : W1.heap.size = w.heap.size + 1 := by rw [← hW1]; simp
    have hm1 : Lk 55 w.heap.size (.slice none 0 0) rm [] W1 := by rw [← hW1]; exact Lk.made _ _ _ _
    rw [hW1] at HN1
    have HN2 := Lib.hid (new_yes_ref rm (by omega) (by omega) W1)
    obtain ⟨W2, hW2⟩ : ∃ W2, W1.alloc (.cells #[.int .i64 rm, .slice none 0 0] 41) = W2 := ⟨_, rfl⟩
    have hb2 : Below W1.heap.size W1 W2 := by rw [← hW2]; exact (Below.refl _ _).alloc (Nat.le_refl _) _
    have hm2 : Lk 38 W1.heap.size (.slice none 0 0) rm [] W2 := by rw [← hW2]; exact Lk.made _ _ _ _
    rw [hW2, hz1] at HN2
    rw [hz1] at hm2
    have HBO := Lib.hid (show Both w.heap.size w.heap.size (w.heap.size + 1) (.slice none 0 0) (.slice none 0 0) rm [] W2 from by
      refine ⟨hm1.step hb2, hm2, ?_, ?_, by intro p hp; simp at hp⟩
      · intro k h1 h2
        rcases h1 with rfl | h1
        · rcases h2 with h2 | h2
          · omega
          · cases h2
        · cases h1
      · intro k hk
        rcases hk with (rfl | h1) | (rfl | h1)
        · exact Nat.le_refl _
        · cases h1
        · omega
        · cases h1)
    have HB2 := Lib.hid (chain hb1 hb2)
    have HAT := Lib.hid (fun (w' : World) (hb : Below w.heap.size w w') => h.at'.old hb)
    clear h hll hr hW1 hW2 hb1 hz1 hm1 hb2 hm2
    go_enter Try.func4, Try.ntmps4
    go_wp2_with fail
    refine HLI.out.mono ?_
    rintro e w0 ⟨b, rfl, rfl, h200⟩
    cases b with
    | false =>
      go_wp2_with fail
      go_ret
      exact ⟨rfl, Below.refl _ _⟩
    | true =>
      have h200 := h200 rfl
      go_wp2_with fail
      refine HN1.out.mono ?_
      rintro e w1 ⟨rfl, rfl⟩
      go_wp2_with fail
      refine HN2.out.mono ?_
      rintro e w1 ⟨rfl, rfl⟩
      go_wp2_with fail
      go_loopw [9] (fun vi wr => ∃ (k : Nat) (v1 v2 : Value) (ps : List Pk), k ≤ l.length ∧ vi = .int .i64 k ∧ Both w.heap.size w.heap.size (w.heap.size + 1) v1 v2 rm ps wr ∧ Below w.heap.size w wr) (fun vi _ => l.length - (intOf vi).toNat)
      case atStart => exact ⟨0, _, _, [], by omega, rfl, HBO.out, HB2.out⟩
      case round =>
        obtain ⟨k, v1, v2, ps, hk, rfl, hBo, hbr⟩ := hrel
        by_cases hkl : k < l.length
        · obtain ⟨c, hcl⟩ := some_at hkl
          obtain ⟨bb, oo, hao, hs1, hb1, hok, y0, y1, y2, y3, y4⟩ := op_get (HAT.out _ hbr) hcl
          subst hao
          have hkl2 : (k : Int) < (l.length : Int) := by omega
          obtain ⟨c0, c1, c2, c3, c4⟩ := c
          obtain ⟨yb, hyb⟩ := int_u8 (show (Lit.int .u8 c3).wf = true from hok.2.2.2.1)
          simp only at y0 y1 y2 y3 y4 hyb
          subst hyb
          clear hok hcl
          -- the box
          obtain ⟨X, hX⟩ : ∃ X, wr.heap.size = X := ⟨_, rfl⟩
          obtain ⟨Wx, hWx, hbx, hzx, q0, q1, q2, q3, q4⟩ : ∃ Wx, wr.alloc (.cells #[.int .i64 c0, .int .i64 c1, .int .i64 c2, .int .u8 (yb.toNat : Int), .string c4] 34) = Wx ∧ Below wr.heap.size wr Wx ∧ Wx.heap.size = wr.heap.size + 1 ∧ Wx.cell? ⟨wr.heap.size, 0, none⟩ = some (.int .i64 c0) ∧ Wx.cell? ⟨wr.heap.size, 1, none⟩ = some (.int .i64 c1) ∧ Wx.cell? ⟨wr.heap.size, 2, none⟩ = some (.int .i64 c2) ∧ Wx.cell? ⟨wr.heap.size, 3, none⟩ = some (.int .u8 (yb.toNat : Int)) ∧ Wx.cell? ⟨wr.heap.size, 4, none⟩ = some (.string c4) :=
            ⟨_, rfl, (Below.refl _ _).alloc (Nat.le_refl _) _, by simp, by simp [go_sem], by simp [go_sem], by simp [go_sem], by simp [go_sem], by simp [go_sem]⟩
          have hfx : ∀ k, foot w.heap.size v1 k → k < wr.heap.size := fun k hk => hBo.a.foot_lt hk
          have HBx := Lib.hid (hBo.step hbx)
          have HFx := Lib.hid hfx
          have HFx2 := Lib.hid (show ∀ k, foot (w.heap.size + 1) v2 k → k < wr.heap.size from fun k hk => hBo.r.foot_lt hk)
          have HZx := Lib.hid (show wr.heap.size < Wx.heap.size by omega)
          have HBEL := Lib.hid (chain hbr (hbx.mono (Nat.le_refl _)))
          have HSB := Lib.hid (show w.heap.size ≤ Wx.heap.size from (chain hbr hbx).size)
          clear hBo hbr hbx hzx hfx hX
          by_cases h0 : c0 = 0
          · subst h0
            have HBd := Lib.hid (HBx.out.step (Below.refl _ Wx).drew)
            have HZd := Lib.hid (show wr.heap.size < Wx.drew.heap.size from HZx.out)
            have HSd := Lib.hid (show w.heap.size ≤ Wx.drew.heap.size from HSB.out)
            have p4 : Wx.drew.cell? ⟨wr.heap.size, 4, none⟩ = _ := q4
            go_wp2_with fail
            go_region_held3 (fun w' => w'.cell? ⟨wr.heap.size, 4, none⟩ = some (.string c4))
              (first | exact p4 | exact z4 | exact box_keep hK2 (Nat.lt_of_lt_of_le HZd.out hK1.size) HFx2.out z4)
              (first
                | (go_at_call 9; refine (send_any c4 hrm1 HBd.out.a).mono ?_; rintro e w5 ⟨rfl, v1', hL1, hK1, hf1⟩; have hF := HBd.out.first hL1 hK1 hf1 HSd.out; have z4 := box_keep hK1 HZd.out HFx.out p4)
                | (go_at_call 10; refine (send_ref c4 hrm1 hF.1).mono ?_; rintro e w6 ⟨rfl, v2', hL2, hK2, hf2⟩))
            all_goals
              obtain ⟨hB6, hb6⟩ := hF.2.2 v2' w6 hL2 hK2 hf2 (HBx.out.ok.send c4)
              obtain ⟨W7, ao7, cap7, hW7, hB7, hb7, x7, HLEN⟩ := hB6.seven
              have HB7 := Lib.hid hB7
              have HBF := Lib.hid (((HBEL.out.drew.trans hF.2.1).trans hb6).trans hb7)
              clear hF hB6 hb6 hB7 hb7 hL1 hK1 hf1 hL2 hK2 hf2
              go_wp2_with fail
              (refine wp_region_still_lit (by kernel_rfl) (by kernel_rfl) ?_; rw [hW7]; clear hW7; refine StillH.out ?_; (repeat (first | (refine still_h (fun K hK => ?_); go_simp; refine hK _ ?_; clear hK K) | (refine still_h (fun K hK => ?_); go_simp; refine ⟨_, HLEN.out, hK _ ?_⟩; clear hK K))); refine still_end ?_)
              go_wp2_with fail
              go_roundw
              case measure => simp [intOf]; omega
              case rel => exact ⟨k + 1, v1', v2', _, by omega, by go_num, HB7.out, HBF.out⟩
          · skip
            by_cases h2 : c0 = 2
            · subst h2
              have HBd := Lib.hid (HBx.out.step (Below.refl _ Wx).drew)
              have HZd := Lib.hid (show wr.heap.size < Wx.drew.heap.size from HZx.out)
              have HSd := Lib.hid (show w.heap.size ≤ Wx.drew.heap.size from HSB.out)
              have p1 : Wx.drew.cell? ⟨wr.heap.size, 1, none⟩ = _ := q1
              go_wp2_with fail
              go_region_held3 (fun w' => w'.cell? ⟨wr.heap.size, 1, none⟩ = some (.int .i64 c1))
                (first | exact p1 | exact z1 | exact box_keep hK2 (Nat.lt_of_lt_of_le HZd.out hK1.size) HFx2.out z1)
                (first
                  | (go_at_call 15; refine (drop_any c1 HBd.out.a).mono ?_; rintro e w5 ⟨rfl, v1', hL1, hK1, hf1⟩; have hF := HBd.out.first hL1 hK1 hf1 HSd.out; have z1 := box_keep hK1 HZd.out HFx.out p1)
                  | (go_at_call 16; refine (drop_ref c1 hF.1).mono ?_; rintro e w6 ⟨rfl, v2', hL2, hK2, hf2⟩))
              all_goals
                obtain ⟨hB6, hb6⟩ := hF.2.2 v2' w6 hL2 hK2 hf2 (HBx.out.ok.gone c1)
                obtain ⟨W7, ao7, cap7, hW7, hB7, hb7, x7, HLEN⟩ := hB6.seven
                have HB7 := Lib.hid hB7
                have HBF := Lib.hid (((HBEL.out.drew.trans hF.2.1).trans hb6).trans hb7)
                clear hF hB6 hb6 hB7 hb7 hL1 hK1 hf1 hL2 hK2 hf2
                go_wp2_with fail
                (refine wp_region_still_lit (by kernel_rfl) (by kernel_rfl) ?_; rw [hW7]; clear hW7; refine StillH.out ?_; (repeat (first | (refine still_h (fun K hK => ?_); go_simp; refine hK _ ?_; clear hK K) | (refine still_h (fun K hK => ?_); go_simp; refine ⟨_, HLEN.out, hK _ ?_⟩; clear hK K))); refine still_end ?_)
                go_wp2_with fail
                go_roundw
                case measure => simp [intOf]; omega
                case rel => exact ⟨k + 1, v1', v2', _, by omega, by go_num, HB7.out, HBF.out⟩
            · skip
              by_cases h3 : c0 = 3
              · subst h3
                have HBd := Lib.hid (HBx.out.step (Below.refl _ Wx).drew)
                have HZd := Lib.hid (show wr.heap.size < Wx.drew.heap.size from HZx.out)
                have HSd := Lib.hid (show w.heap.size ≤ Wx.drew.heap.size from HSB.out)
                have p1 : Wx.drew.cell? ⟨wr.heap.size, 1, none⟩ = _ := q1
                go_wp2_with fail
                go_region_held3 (fun w' => w'.cell? ⟨wr.heap.size, 1, none⟩ = some (.int .i64 c1))
                  (first | exact p1 | exact z1 | exact box_keep hK2 (Nat.lt_of_lt_of_le HZd.out hK1.size) HFx2.out z1)
                  (first
                    | (go_at_call 17; refine (twice_any c1 hrm1 HBd.out.a).mono ?_; rintro e w5 ⟨rfl, v1', hL1, hK1, hf1⟩; have hF := HBd.out.first hL1 hK1 hf1 HSd.out; have z1 := box_keep hK1 HZd.out HFx.out p1)
                    | (go_at_call 18; refine (twice_ref c1 hrm1 hF.1).mono ?_; rintro e w6 ⟨rfl, v2', hL2, hK2, hf2⟩))
                all_goals
                  obtain ⟨hB6, hb6⟩ := hF.2.2 v2' w6 hL2 hK2 hf2 (HBx.out.ok.twice c1 HBx.out.a.le)
                  obtain ⟨W7, ao7, cap7, hW7, hB7, hb7, x7, HLEN⟩ := hB6.seven
                  have HB7 := Lib.hid hB7
                  have HBF := Lib.hid (((HBEL.out.drew.trans hF.2.1).trans hb6).trans hb7)
                  clear hF hB6 hb6 hB7 hb7 hL1 hK1 hf1 hL2 hK2 hf2
                  go_wp2_with fail
                  (refine wp_region_still_lit (by kernel_rfl) (by kernel_rfl) ?_; rw [hW7]; clear hW7; refine StillH.out ?_; (repeat (first | (refine still_h (fun K hK => ?_); go_simp; refine hK _ ?_; clear hK K) | (refine still_h (fun K hK => ?_); go_simp; refine ⟨_, HLEN.out, hK _ ?_⟩; clear hK K))); refine still_end ?_)
                  go_wp2_with fail
                  go_roundw
                  case measure => simp [intOf]; omega
                  case rel => exact ⟨k + 1, v1', v2', _, by omega, by go_num, HB7.out, HBF.out⟩
              · skip
                by_cases h4 : c0 = 4
                · subst h4
                  have HBd := Lib.hid (HBx.out.step (Below.refl _ Wx).drew)
                  have HZd := Lib.hid (show wr.heap.size < Wx.drew.heap.size from HZx.out)
                  have HSd := Lib.hid (show w.heap.size ≤ Wx.drew.heap.size from HSB.out)
                  have p1 : Wx.drew.cell? ⟨wr.heap.size, 1, none⟩ = _ := q1
                  have p2 : Wx.drew.cell? ⟨wr.heap.size, 2, none⟩ = _ := q2
                  have p3 : Wx.drew.cell? ⟨wr.heap.size, 3, none⟩ = _ := q3
                  go_wp2_with fail
                  go_region_held3 (fun w' => w'.cell? ⟨wr.heap.size, 1, none⟩ = some (.int .i64 c1) ∧ w'.cell? ⟨wr.heap.size, 2, none⟩ = some (.int .i64 c2) ∧ w'.cell? ⟨wr.heap.size, 3, none⟩ = some (.int .u8 (yb.toNat : Int)))
                    (first | exact ⟨p1, p2, p3⟩ | exact ⟨z1, z2, z3⟩ | exact ⟨box_keep hK2 (Nat.lt_of_lt_of_le HZd.out hK1.size) HFx2.out z1, box_keep hK2 (Nat.lt_of_lt_of_le HZd.out hK1.size) HFx2.out z2, box_keep hK2 (Nat.lt_of_lt_of_le HZd.out hK1.size) HFx2.out z3⟩)
                    (first
                      | (go_at_call 19; refine (turn_any c1 c2 yb HBx.out.ok HBd.out.a).mono ?_; rintro e w5 ⟨rfl, v1', hL1, hK1, hf1⟩; have hF := HBd.out.first hL1 hK1 hf1 HSd.out; have z1 := box_keep hK1 HZd.out HFx.out p1; have z2 := box_keep hK1 HZd.out HFx.out p2; have z3 := box_keep hK1 HZd.out HFx.out p3)
                      | (go_at_call 20; refine (turn_ref c1 c2 yb HBx.out.ok hF.1).mono ?_; rintro e w6 ⟨rfl, v2', hL2, hK2, hf2⟩))
                  all_goals
                    obtain ⟨hB6, hb6⟩ := hF.2.2 v2' w6 hL2 hK2 hf2 (HBx.out.ok.turn c1 c2 yb HBx.out.a.le)
                    obtain ⟨W7, ao7, cap7, hW7, hB7, hb7, x7, HLEN⟩ := hB6.seven
                    have HB7 := Lib.hid hB7
                    have HBF := Lib.hid (((HBEL.out.drew.trans hF.2.1).trans hb6).trans hb7)
                    clear hF hB6 hb6 hB7 hb7 hL1 hK1 hf1 hL2 hK2 hf2
                    go_wp2_with fail
                    (refine wp_region_still_lit (by kernel_rfl) (by kernel_rfl) ?_; rw [hW7]; clear hW7; refine StillH.out ?_; (repeat (first | (refine still_h (fun K hK => ?_); go_simp; refine hK _ ?_; clear hK K) | (refine still_h (fun K hK => ?_); go_simp; refine ⟨_, HLEN.out, hK _ ?_⟩; clear hK K))); refine still_end ?_)
                    go_wp2_with fail
                    go_roundw
                    case measure => simp [intOf]; omega
                    case rel => exact ⟨k + 1, v1', v2', _, by omega, by go_num, HB7.out, HBF.out⟩
                · skip
                  by_cases h1 : c0 = 1
                  · subst h1
                    have HT1 := Lib.hid (take_any c1 (fun p hp => (HBx.out.ok p hp).2) HBx.out.a)
                    go_wp2_with fail
                    refine HT1.out.mono ?_
                    rintro e w5 ⟨rfl, v1', hL1, hK1, hf1⟩
                    have hF := HBx.out.first hL1 hK1 hf1 HSB.out
                    have z1 := box_keep hK1 HZx.out HFx.out q1
                    have HT2 := Lib.hid (take_ref c1 (fun p hp => (HBx.out.ok p hp).2) hF.1)
                    go_wp2_with fail
                    refine HT2.out.mono ?_
                    rintro e w6 ⟨rfl, v2', hL2, hK2, hf2⟩
                    obtain ⟨hB6, hb6⟩ := hF.2.2 v2' w6 hL2 hK2 hf2 (HBx.out.ok.gone c1)
                    obtain ⟨W7, ao7, cap7, hW7, hB7, hb7, x7, HLEN⟩ := hB6.seven
                    have HB7 := Lib.hid hB7
                    have HBF := Lib.hid (((HBEL.out.trans hF.2.1).trans hb6).trans hb7)
                    clear hF hB6 hb6 hB7 hb7 hL1 hK1 hf1 hL2 hK2 hf2 HT1 HT2
                    generalize takeS c1 ps = ts at *
                    generalize takeB c1 ps = tb at *
                    generalize goneE ps = ge at *
                    go_wp2_with fail
                    (refine wp_region_still_lit (by kernel_rfl) (by kernel_rfl) ?_; rw [hW7]; clear hW7; refine StillH.out ?_; (repeat (first | (refine still_h (fun K hK => ?_); go_simp; refine hK _ ?_; clear hK K) | (refine still_h (fun K hK => ?_); go_simp; refine ⟨_, HLEN.out, hK _ ?_⟩; clear hK K))); refine still_end ?_)
                    go_wp2_with fail
                    go_roundw
                    case measure => simp [intOf]; omega
                    case rel => exact ⟨k + 1, v1', v2', _, by omega, by go_num, HB7.out, HBF.out⟩
                  · skip
                    by_cases h5 : c0 = 5
                    · subst h5
                      have HT1 := Lib.hid (clear_any HBx.out.a)
                      go_wp2_with fail
                      refine HT1.out.mono ?_
                      rintro e w5 ⟨rfl, hL1, hK1⟩
                      have hF := HBx.out.first hL1 hK1 (fun k hk => hk.elim (fun h => .inl (.inl h)) (fun h => by cases h)) HSB.out
                      have d1 := hF.1.c1
                      have df := hF.1.f1
                      have dlt := hF.1.lt
                      have hL2 := hF.1.nil
                      obtain ⟨hB6, hb6⟩ := hF.2.2 (.slice none 0 0) _ hL2 (Kept.setCell w5 (.inl rfl) _) (fun k hk => hk.elim (fun h => .inl (.inl h)) (fun h => by cases h)) (by intro p hp; simp at hp)
                      obtain ⟨W7, ao7, cap7, hW7, hB7, hb7, x7, HLEN⟩ := hB6.seven
                      have HB7 := Lib.hid hB7
                      have HBF := Lib.hid (((HBEL.out.trans hF.2.1).trans hb6).trans hb7)
                      clear hF hB6 hb6 hB7 hb7 hL1 hK1 hL2 HT1
                      go_wp2_with fail
                      (refine wp_region_still_lit (by kernel_rfl) (by kernel_rfl) ?_; rw [hW7]; clear hW7; refine StillH.out ?_; (repeat (first | (refine still_h (fun K hK => ?_); go_simp; refine hK _ ?_; clear hK K) | (refine still_h (fun K hK => ?_); go_simp; refine ⟨_, HLEN.out, hK _ ?_⟩; clear hK K))); refine still_end ?_)
                      go_wp2_with fail
                      go_roundw
                      case measure => simp [intOf]; omega
                      case rel => exact ⟨k + 1, _, _, _, by omega, by go_num, HB7.out, HBF.out⟩
                    · skip
                      obtain ⟨W7, ao7, cap7, hW7, hB7, hb7, x7, HLEN⟩ := HBx.out.seven
                      have HB7 := Lib.hid hB7
                      have HBF := Lib.hid (HBEL.out.trans hb7)
                      clear hB7 hb7
                      go_wp2_with fail
                      (refine wp_region_still_lit (by kernel_rfl) (by kernel_rfl) ?_; rw [hW7]; clear hW7; refine StillH.out ?_; (repeat (first | (refine still_h (fun K hK => ?_); go_simp; refine hK _ ?_; clear hK K) | (refine still_h (fun K hK => ?_); go_simp; refine ⟨_, HLEN.out, hK _ ?_⟩; clear hK K))); refine still_end ?_)
                      go_wp2_with fail
                      go_roundw
                      case measure => simp [intOf]; omega
                      case rel => exact ⟨k + 1, _, _, _, by omega, by go_num, HB7.out, HBF.out⟩
        · obtain rfl : k = l.length := by omega
          go_wp2_with fail
          refine (works_any wr).mono ?_
          rintro e w9 ⟨rfl, hb9⟩
          go_wp2_with fail
          go_ret
          exact ⟨rfl, chain hbr hb9⟩
theorem does_own : ownKnob Try.prog.godebug = none := by kernel_rfl
theorem does_laid : laidOutB Try.prog = true := by kernel_rfl

set_option maxRecDepth 100000 in
theorem does_lifted (os : Os) (started : os.Started) (H : Type) (enc : TypeId × Value → H) :
    ReturnsInHanded {} Try.checked os 4 .any (Rows.linkDoesSpec.pre6 enc Try.prog Try.f4 Rows.linkDoesRow.domain false) (Rows.linkDoesSpec.post enc Try.prog Try.f4 false true false false) := by
  refine law_lifted (C := Try.checked) 4 does_own started (by kernel_rfl) Try.func4 does_laid rfl (by kernel_rfl) Try.underlying4 (by kernel_rfl)
    (fun ds h => by match ds, h with | [_, _], _ => rfl)
    (ChangeSpec.witness6 (enc := enc) (C := Try.checked) false ⟨#[], #[.int .i64 0, .slice none 0 0], []⟩ 8 (by kernel_rfl) (by kernel_rfl) (by kernel_rfl) (by kernel_rfl)) ?_
  intro W base args ds p hval0 hA0 hfz hz0
  have hz : ∀ (j : Nat) t d, Try.f4.params.toList[j]? = some t → ds[j]? = some d → ∀ n ∈ d.weights Try.prog t, n ≤ reachBytes := hz0
  have hval : ∀ (j : Nat) t v, Try.f4.params[j]? = some t → args[j]? = some v → Value.okWide Try.prog W .any base t v := hval0
  have hA : DataW.TrodAll enc Try.prog W 0 (fun _ => true) true Try.f4.params.toList args.toList ds p := hA0
  rw [Try.params4] at hA hval
  obtain ⟨v0, vs0, d0, ds0, p0, q0, hargs, rfl, rfl, h0, r0⟩ := trodAll_cons hA
  obtain ⟨v1, vs1, d1, ds1, p1, q1, rfl, rfl, rfl, h1, r1⟩ := trodAll_cons r0
  obtain ⟨rfl, rfl, rfl⟩ := trodAll_nil r1
  obtain rfl : args = #[v0, v1] := by cases args; simp_all
  obtain ⟨a0, rfl, _, _, w0⟩ := open_int Try.underlying3 (hval 0 3 v0 rfl rfl) h0
  obtain ⟨l1, ao1, cap1, rfl, c1⟩ := Rd.arg_slice at_22 Try.underlying22 (hval 1 22 v1 rfl rfl) h1 (hz 1 22 d1 rfl rfl)
  exact law_does a0 w0 ao1 cap1 l1 W c1

theorem does_holds : Rows.LinkDoesSaid :=
  OpenClaim.holds_of_wide 4 Try.f4 rfl rfl rfl rfl rfl rfl rfl ⟨rfl, rfl, rfl, rfl, rfl⟩ rfl rfl rfl rfl rfl (by kernel_rfl) Try.func4 (by kernel_rfl)
    (of_decide_eq_true (by kernel_rfl)) (by unfold Func.isWrapper; rw [if_neg (of_decide_eq_false (by kernel_rfl))]; exact ⟨rfl, rfl⟩)
    (fun os started H enc _ => does_lifted os started H enc)

end Go.Proofs.Ythloiancndlagaa
