/- LinkTrue holds: what is taken as it is was sent so, whatever was turned on its way; a packet that was turned is taken as spoilt. No condition. -/
import Derived.Test.YthloiancndlagaaLk12
namespace Go.Proofs.Ythloiancndlagaa
open Go.ChangeShapes Go.WideShapes Go.ChangeAt Go.RowKit Lift Crc
set_option linter.unusedSimpArgs false
set_option linter.unusedVariables false


theorem tstr_info : (Try.prog.info? 9).map (fun i => (i.zero, i.size, i.bytes)) = some (some (.string ByteArray.empty), 1, 16) := by kernel_rfl
/-- A link's place that a number names, the world as it was. -/
theorem Mid.at7 {B b1 b2 : Nat} {v1 v2 : Value} {room : Nat} {ps : List Pk} {sv : Value} {sl : List ByteArray} {w6 : World} (h : Mid B b1 b2 v1 v2 room ps ps sv sl w6) (c1 : Int) (hl : 0 < ps.length) {p : Pk} (hp : ps[atN c1 ps.length]? = some p) :
    ∃ W7 ao cap g, { w6 with drawn := w6.drawn + 1 } = W7 ∧ Mid B b1 b2 v1 v2 room ps ps sv sl W7 ∧ ao = some ⟨g, 0, none⟩ ∧ W7.cell? ⟨b2, 1, none⟩ = some (.slice ao ps.length cap) ∧ W7.cell? ⟨g, atN c1 ps.length * 2 + 1, none⟩ = some (.bool p.2) ∧ Hid (Calls Try.prog 11 #[.pointer (some ⟨b2, 0, none⟩), .int .i64 c1] W7 (fun e w' => e = .returned (.int .i64 (atN c1 ps.length : Nat)) ∧ w' = W7)) := by
  have h7 := h.step (Below.refl _ w6).drew
  obtain ⟨ao, cap, e⟩ := h7.r.own.form
  have ho := h7.r.own
  rw [e] at ho
  obtain ⟨g0, off, hao, _, _, _, y0, y1⟩ := pk_get ho.here hp
  obtain ⟨g, hao'⟩ := ho.block (by rw [hao]; simp [Value.ownBlock])
  rw [hao'] at hao
  simp only [Option.some.injEq, Addr.mk.injEq, and_true] at hao
  obtain ⟨rfl, rfl⟩ := hao
  rw [Nat.zero_add] at y1
  exact ⟨_, ao, cap, g, rfl, h7, hao', by rw [← e]; exact h7.r.c1, y1, Lib.hid ((at_ref c1 h7.r hl).mono fun _ _ ⟨x, y⟩ => ⟨x, y.symm⟩)⟩
set_option maxHeartbeats 16000000 in
set_option maxRecDepth 100000 in
theorem law_true (ao : Option Addr) (cap : Nat) (l : List Op) (w : World) (h : SlArg rOp w ao cap l) :
    Calls Try.prog 3 #[.slice ao l.length cap] w (TruePost w) := by
  have hll : l.length ≤ maxLen := Nat.le_trans h.le h.max
  have HAT := Lib.hid (fun (w' : World) (hb : Below w.heap.size w w') => h.at'.old hb)
  clear h
  obtain ⟨i0, hi0, hz0, hz1, hz2⟩ := info_parts tstr_info
  have HI := Lib.hid hi0; have HZ0 := Lib.hid hz0; have HZ1 := Lib.hid hz1; have HZ2 := Lib.hid hz2
  clear hi0 hz0 hz1 hz2
  go_enter Try.func3, Try.ntmps3
  go_wp2_with fail
  refine (works_any w).mono ?_
  rintro e w9 ⟨rfl, hb9⟩
  have HLI := Lib.hid (light_any ao cap l w9 ((HAT.out w9 hb9).mono (fun b hb _ => by have := hb9.size; omega)) hll)
  have HN1 := Lib.hid (new_yes (50 : Nat) (by decide) (by decide) w9)
  obtain ⟨W1, hW1⟩ : ∃ W1, w9.alloc (.cells #[.int .i64 (50 : Nat), .slice none 0 0] 51) = W1 := ⟨_, rfl⟩
  have hb1 : Below w9.heap.size w9 W1 := by rw [← hW1]; exact (Below.refl _ _).alloc (Nat.le_refl _) _
  have hz1 : W1.heap.size = w9.heap.size + 1 := by rw [← hW1]; simp
  have hm1 : Lk 55 w9.heap.size (.slice none 0 0) 50 [] W1 := by rw [← hW1]; exact Lk.made _ _ _ _
  rw [hW1] at HN1
  have HN2 := Lib.hid (new_yes_ref (50 : Nat) (by decide) (by decide) W1)
  obtain ⟨W2, hW2⟩ : ∃ W2, W1.alloc (.cells #[.int .i64 (50 : Nat), .slice none 0 0] 41) = W2 := ⟨_, rfl⟩
  have hb2 : Below W1.heap.size W1 W2 := by rw [← hW2]; exact (Below.refl _ _).alloc (Nat.le_refl _) _
  have hm2 : Lk 38 W1.heap.size (.slice none 0 0) 50 [] W2 := by rw [← hW2]; exact Lk.made _ _ _ _
  rw [hW2, hz1] at HN2
  rw [hz1] at hm2
  have hwz := hb9.size
  have HMO := Lib.hid (show Mid w.heap.size w9.heap.size (w9.heap.size + 1) (.slice none 0 0) (.slice none 0 0) 50 [] [] (.slice none 0 0) [] W2 from by
    refine ⟨hm1.step hb2, hm2, ?_, ?_, ?_, Own.nil _ _ _ _ _, ?_, ?_⟩
    · intro k h1 h2
      rcases h1 with rfl | h1
      · rcases h2 with h2 | h2
        · omega
        · cases h2
      · cases h1
    · rintro k (rfl | h1)
      · exact hwz
      · cases h1
    · rintro k (rfl | h1)
      · omega
      · cases h1
    · intro k _ e; cases e
    · intro k _ e; cases e)
  have HB2 := Lib.hid (chain (chain hb9 hb1) hb2)
  have HB9 := Lib.hid hb9
  clear hW1 hW2 hb1 hz1 hm1 hb2 hm2 hb9 hwz
  go_wp2_with fail
  refine HLI.out.mono ?_
  rintro e w0 ⟨b, rfl, rfl, h200⟩
  cases b with
  | false =>
    go_wp2_with fail
    go_ret
    exact ⟨rfl, (by have := HB2.out; exact HB9.out)⟩
  | true =>
    have h200 := h200 rfl
    go_wp2_with fail
    refine HN1.out.mono ?_
    rintro e w1 ⟨rfl, rfl⟩
    go_wp2_with fail
    refine HN2.out.mono ?_
    rintro e w1 ⟨rfl, rfl⟩
    go_wp2_with fail
    go_loopw [7, 8] (fun vs vi wr => ∃ (k : Nat) (v1 v2 : Value) (ps : List Pk) (sl : List ByteArray), k ≤ l.length ∧ vi = .int .i64 k ∧ Mid w.heap.size w9.heap.size (w9.heap.size + 1) v1 v2 50 ps ps vs sl wr ∧ Hid (okL ps ∧ Inv ps sl) ∧ sl.length ≤ k ∧ Below w.heap.size w wr) (fun _ vi _ => l.length - (intOf vi).toNat)
    case atStart => exact ⟨0, _, _, [], [], by omega, rfl, HMO.out, Lib.hid ⟨(fun p hp => by simp at hp), Inv.nil⟩, by simp, HB2.out⟩
    case round =>
      obtain ⟨k, v1, v2, ps, sl, hk, rfl, hMo, hoi, hsl, hbr⟩ := hrel
      by_cases hkl : k < l.length
      · obtain ⟨c, hcl⟩ := some_at hkl
        obtain ⟨bb, oo, hao, hs1, hb1, hok, y0, y1, y2, y3, y4⟩ := op_get (HAT.out _ hbr) hcl
        subst hao
        have hkl2 : (k : Int) < (l.length : Int) := by omega
        obtain ⟨c0, c1, c2, c3, c4⟩ := c
        obtain ⟨yb, hyb⟩ := int_u8 (show (Lit.int .u8 c3).wf = true from hok.2.2.2.1)
        have hc4 : c4.size ≤ maxTx := hok.2.2.2.2
        have HC4 := Lib.hid hc4
        simp only at y0 y1 y2 y3 y4 hyb
        subst hyb
        clear hok hcl hc4
        obtain ⟨sa, sc, hsv⟩ := hMo.own.form
        subst hsv
        -- the box
        obtain ⟨Wx, hWx, hbx, hzx, q0, q1, q2, q3, q4⟩ : ∃ Wx, wr.alloc (.cells #[.int .i64 c0, .int .i64 c1, .int .i64 c2, .int .u8 (yb.toNat : Int), .string c4] 34) = Wx ∧ Below wr.heap.size wr Wx ∧ Wx.heap.size = wr.heap.size + 1 ∧ Wx.cell? ⟨wr.heap.size, 0, none⟩ = some (.int .i64 c0) ∧ Wx.cell? ⟨wr.heap.size, 1, none⟩ = some (.int .i64 c1) ∧ Wx.cell? ⟨wr.heap.size, 2, none⟩ = some (.int .i64 c2) ∧ Wx.cell? ⟨wr.heap.size, 3, none⟩ = some (.int .u8 (yb.toNat : Int)) ∧ Wx.cell? ⟨wr.heap.size, 4, none⟩ = some (.string c4) :=
          ⟨_, rfl, (Below.refl _ _).alloc (Nat.le_refl _) _, by simp, by simp [go_sem], by simp [go_sem], by simp [go_sem], by simp [go_sem], by simp [go_sem]⟩
        have HFx := Lib.hid (show ∀ k, foot w9.heap.size v1 k → k < wr.heap.size from fun k hk => hMo.a.foot_lt hk)
        have HFx2 := Lib.hid (show ∀ k, foot (w9.heap.size + 1) v2 k → k < wr.heap.size from fun k hk => hMo.r.foot_lt hk)
        have HFs := Lib.hid (show ∀ k, Value.ownBlock (.slice sa sl.length sc) = some k → k < wr.heap.size from fun k hk => (hMo.own.lt k hk).2)
        have HMx := Lib.hid (hMo.step hbx)
        have HZx := Lib.hid (show wr.heap.size < Wx.heap.size by omega)
        have HBEL := Lib.hid (chain hbr hbx)
        have HSB := Lib.hid (show w.heap.size ≤ Wx.heap.size from (chain hbr hbx).size)
        have hls : sl.length ≤ 200 := by omega
        clear hMo hbr hbx hzx
        by_cases h0 : c0 = 0
        · subst h0
          have HOI := Lib.hid (show okL (sendL 50 ps c4) ∧ Inv (sendL 50 ps c4) (if sendE 50 ps c4 = 0 then sl ++ [c4] else sl) from ⟨hoi.out.1.send c4, hoi.out.2.send c4⟩)
          have HS1 := Lib.hid (send_any (room := 50) c4 (by decide) HMx.out.a)
          have HS2 := Lib.hid (fun (w' : World) (v : Value) (hl : Lk 38 (w9.heap.size + 1) v 50 ps w') => send_ref (room := 50) c4 (by decide) hl)
          obtain ⟨E, hE⟩ : ∃ E, sendE 50 ps c4 = E := ⟨_, rfl⟩
          rw [hE] at HOI HS1
          generalize sendL 50 ps c4 = L' at *
          by_cases hE0 : E = 0
          · subst hE0
            rw [if_pos rfl] at HOI
            clear hE
            go_wp2_with fail
            refine HS1.out.mono ?_
            rintro e w5 ⟨rfl, v1', hL1, hK1, hf1⟩
            obtain ⟨hM5, hb5⟩ := HMx.out.first hL1 hK1 hf1 HSB.out
            have z4 := box_keep hK1 HZx.out HFx.out q4
            have HM5 := Lib.hid hM5
            have HB5 := Lib.hid (HBEL.out.trans hb5)
            have HX5 := Lib.hid (Nat.lt_of_lt_of_le HZx.out hK1.size)
            have HFACT := Lib.hid (show ∀ w6, Kept (fun k => some k = Value.ownBlock (.slice sa sl.length sc)) w5 w6 → w6.cell? ⟨wr.heap.size, 4, none⟩ = some (.string c4) from fun w6 hk => (hk.cell (p := ⟨wr.heap.size, 4, none⟩) HX5.out (fun e => Nat.lt_irrefl _ (HFs.out wr.heap.size e.symm))).trans z4)
            clear hM5 hb5 hL1 hK1 hf1
            go_wp2_with (first | (at_builtin; refine wpList_push Rd.str rfl _ _ 32 rfl w.heap.size 9 i0 _ 16 Try.underlying32 HI.out HZ0.out HZ1.out HZ2.out rfl (by decide) (fun _ => True) _ sl rfl HM5.out.own [.string c4] c4 _ rfl (by simp) ⟨rfl, HC4.out⟩ (by simp [Value.oneCell']) (by unfold maxLen; omega) (by omega) HB5.out.size ?_; intro sv2 w6 hO2 hK2 hw2; have z4 := HFACT.out w6 hK2))
            obtain ⟨hM6, hb6⟩ := HM5.out.push hK2 hO2 (by
              rcases hw2 with e | ⟨g, e, hg⟩
              · exact .inl e
              · exact .inr ⟨g, e, Nat.le_of_lt hg⟩) HB5.out.size
            refine (HS2.out w6 v2 hM6.r).mono ?_
            rintro e w7 ⟨rfl, v2', hL2, hK3, hf2⟩
            have hS6 := (HB5.out.trans hb6).size
            obtain ⟨hM7, hb7⟩ := hM6.second hL2 hK3 hf2 hS6
            have HM7 := Lib.hid hM7
            have HB7 := Lib.hid ((HB5.out.trans hb6).trans hb7)
            clear hM6 hb6 hM7 hb7 hL2 hK3 hf2 hO2 hK2 hw2
            go_wp2_with fail
            go_roundw
            case measure => simp [intOf]; omega
            case rel => exact ⟨k + 1, v1', v2', _, sl ++ [c4], by omega, by go_num, HM7.out, HOI, by simp; omega, HB7.out⟩
          · rw [if_neg hE0] at HOI
            have hd0 : decide (E = 0) = false := by simpa using hE0
            have hd1 : (E == 0) = false := by simpa using hE0
            clear hE
            go_wp2_with fail
            refine HS1.out.mono ?_
            rintro e w5 ⟨rfl, v1', hL1, hK1, hf1⟩
            obtain ⟨hM5, hb5⟩ := HMx.out.first hL1 hK1 hf1 HSB.out
            have z4 := box_keep hK1 HZx.out HFx.out q4
            have HM5 := Lib.hid hM5
            have HB5 := Lib.hid (HBEL.out.trans hb5)
            clear hM5 hb5 hL1 hK1 hf1
            go_wp2_with fail
            refine (HS2.out w5 v2 HM5.out.r).mono ?_
            rintro e w7 ⟨rfl, v2', hL2, hK3, hf2⟩
            obtain ⟨hM7, hb7⟩ := HM5.out.second hL2 hK3 hf2 HB5.out.size
            have HM7 := Lib.hid hM7
            have HB7 := Lib.hid (HB5.out.trans hb7)
            clear hM7 hb7 hL2 hK3 hf2
            go_wp2_with fail
            go_roundw
            case measure => simp [intOf]; omega
            case rel => exact ⟨k + 1, v1', v2', _, sl, by omega, by go_num, HM7.out, HOI, by omega, HB7.out⟩
        · skip
          by_cases h2 : c0 = 2
          · subst h2
            go_wp2_with fail
            refine (drop_any c1 HMx.out.a).mono ?_
            rintro e w5 ⟨rfl, v1', hL1, hK1, hf1⟩
            obtain ⟨hM5, hb5⟩ := HMx.out.first hL1 hK1 hf1 HSB.out
            have z1 := box_keep hK1 HZx.out HFx.out q1
            have hS5 := hb5.size
            have HM5 := Lib.hid hM5
            have HB5 := Lib.hid (HBEL.out.trans hb5)
            have HK5 := Lib.hid hK1.size
            clear hM5 hb5 hL1 hK1 hf1
            go_wp2_with fail
            refine (drop_ref c1 HM5.out.r).mono ?_
            rintro e w6 ⟨rfl, v2', hL2, hK2, hf2⟩
            obtain ⟨hM6, hb6⟩ := HM5.out.second hL2 hK2 hf2 HB5.out.size
            have HM6 := Lib.hid hM6
            have HB6 := Lib.hid (HB5.out.trans hb6)
            clear hM6 hb6 hL2 hK2 hf2
            go_wp2_with fail
            go_roundw
            case measure => simp [intOf]; omega
            case rel => exact ⟨k + 1, v1', v2', _, sl, by omega, by go_num, HM6.out, Lib.hid ⟨hoi.out.1.gone c1, hoi.out.2.gone c1⟩, by omega, HB6.out⟩
          · skip
            by_cases h3 : c0 = 3
            · subst h3
              go_wp2_with fail
              refine (twice_any (room := 50) c1 (by decide) HMx.out.a).mono ?_
              rintro e w5 ⟨rfl, v1', hL1, hK1, hf1⟩
              obtain ⟨hM5, hb5⟩ := HMx.out.first hL1 hK1 hf1 HSB.out
              have z1 := box_keep hK1 HZx.out HFx.out q1
              have hS5 := hb5.size
              have HM5 := Lib.hid hM5
              have HB5 := Lib.hid (HBEL.out.trans hb5)
              have HK5 := Lib.hid hK1.size
              clear hM5 hb5 hL1 hK1 hf1
              go_wp2_with fail
              refine (twice_ref (room := 50) c1 (by decide) HM5.out.r).mono ?_
              rintro e w6 ⟨rfl, v2', hL2, hK2, hf2⟩
              obtain ⟨hM6, hb6⟩ := HM5.out.second hL2 hK2 hf2 HB5.out.size
              have HM6 := Lib.hid hM6
              have HB6 := Lib.hid (HB5.out.trans hb6)
              clear hM6 hb6 hL2 hK2 hf2
              go_wp2_with fail
              go_roundw
              case measure => simp [intOf]; omega
              case rel => exact ⟨k + 1, v1', v2', _, sl, by omega, by go_num, HM6.out, Lib.hid ⟨hoi.out.1.twice c1 HMx.out.a.le, hoi.out.2.twice c1 HMx.out.a.le⟩, by omega, HB6.out⟩
            · skip
              by_cases h4 : c0 = 4
              · subst h4
                go_wp2_with fail
                refine (turn_any c1 c2 yb hoi.out.1 HMx.out.a).mono ?_
                rintro e w5 ⟨rfl, v1', hL1, hK1, hf1⟩
                obtain ⟨hM5, hb5⟩ := HMx.out.first hL1 hK1 hf1 HSB.out
                have z1 := box_keep hK1 HZx.out HFx.out q1; have z2 := box_keep hK1 HZx.out HFx.out q2; have z3 := box_keep hK1 HZx.out HFx.out q3
                have hS5 := hb5.size
                have HM5 := Lib.hid hM5
                have HB5 := Lib.hid (HBEL.out.trans hb5)
                have HK5 := Lib.hid hK1.size
                clear hM5 hb5 hL1 hK1 hf1
                go_wp2_with fail
                refine (turn_ref c1 c2 yb hoi.out.1 HM5.out.r).mono ?_
                rintro e w6 ⟨rfl, v2', hL2, hK2, hf2⟩
                obtain ⟨hM6, hb6⟩ := HM5.out.second hL2 hK2 hf2 HB5.out.size
                have HM6 := Lib.hid hM6
                have HB6 := Lib.hid (HB5.out.trans hb6)
                clear hM6 hb6 hL2 hK2 hf2
                go_wp2_with fail
                go_roundw
                case measure => simp [intOf]; omega
                case rel => exact ⟨k + 1, v1', v2', _, sl, by omega, by go_num, HM6.out, Lib.hid ⟨hoi.out.1.turn c1 c2 yb HMx.out.a.le, hoi.out.2.turn c1 c2 yb hoi.out.1 HMx.out.a.le⟩, by omega, HB6.out⟩
              · skip
                by_cases h1 : c0 = 1
                · subst h1
                  by_cases hps : 0 < ps.length
                  · obtain ⟨p, h1, h2, h3, h4⟩ := gone_some c1 hps HMx.out.a.le
                    have hpm := List.mem_of_getElem? h1
                    have HA1 := Lib.hid (at_ref c1 HMx.out.r hps)
                    obtain ⟨W7, ao7, cap7, g7, hW7, hM7, hao7, x7, y7, HLEN⟩ := HMx.out.at7 c1 hps h1
                    subst hao7
                    have u1 : W7.cell? ⟨wr.heap.size, 1, none⟩ = some (.int .i64 c1) := by rw [← hW7]; exact q1
                    have hlt7 : wr.heap.size < W7.heap.size := by rw [← hW7]; exact HZx.out
                    have hb7 : Below Wx.heap.size Wx W7 := by rw [← hW7]; exact (Below.refl _ _).drew
                    have HZ7 := Lib.hid hlt7
                    have HM7 := Lib.hid hM7
                    have HB7 := Lib.hid (chain HBEL.out hb7)
                    have e1 : takeB c1 ps = openB p.1 := by unfold takeB; rw [if_pos hps, h4]
                    have e2 : takeS c1 ps = openS p.1 := by unfold takeS; rw [if_pos hps, h4]
                    have hinv := hoi.out.2 p hpm
                    have HOK := Lib.hid (show okL (goneL c1 ps) ∧ Inv (goneL c1 ps) sl from ⟨hoi.out.1.gone c1, hoi.out.2.gone c1⟩)
                    have HT1 := Lib.hid (take_any c1 (fun p hp => (hoi.out.1 p hp).2) hM7.a)
                    have HT2 := Lib.hid (fun (w' : World) (v : Value) (hl : Lk 38 (w9.heap.size + 1) v 50 ps w') => take_ref c1 (fun p hp => (hoi.out.1 p hp).2) hl)
                    rw [e1, e2, h3] at HT1
                    have hi := (atN_facts c1 ps.length hps HMx.out.a.le).1
                    generalize goneL c1 ps = L' at *
                    generalize atN c1 ps.length = i at *
                    have hi0 : (0 : Int) ≤ (i : Int) := by omega
                    have hi1 : (i : Int) < (ps.length : Int) := by omega
                    have hi2 : i ≤ 1000 := by have := HMx.out.a.le; omega
                    obtain ⟨pt, ptb⟩ := p
                    simp only at y7 HT1 hinv
                    clear h1 h2 h3 h4 e1 e2 hM7 hb7 hpm
                    cases ptb with
                    | true =>
                      rw [hinv.2 rfl] at HT1
                      clear hinv
                      go_wp2_with fail
                      refine HA1.out.mono ?_
                      rintro e w3 ⟨rfl, rfl⟩
                      go_wp2_with fail
                      (refine wp_region_still_lit (by kernel_rfl) (by kernel_rfl) ?_; rw [hW7]; clear hW7; refine StillH.out ?_; (repeat (first | (refine still_h (fun K hK => ?_); go_simp; refine hK _ ?_; clear hK K) | (refine still_h (fun K hK => ?_); go_simp; refine ⟨_, HLEN.out, hK _ ?_⟩; clear hK K))); refine still_end ?_)
                      go_wp2_with fail
                      refine HT1.out.mono ?_
                      rintro e w5 ⟨rfl, v1', hL1, hK1, hf1⟩
                      obtain ⟨hM5, hb5⟩ := HM7.out.first hL1 hK1 hf1 HB7.out.size
                      have z1 := box_keep hK1 HZ7.out HFx.out u1
                      have HM5 := Lib.hid hM5
                      have HB5 := Lib.hid (HB7.out.trans hb5)
                      clear hM5 hb5 hL1 hK1 hf1 u1 q1
                      go_wp2_with fail
                      refine (HT2.out w5 v2 HM5.out.r).mono ?_
                      rintro e w6 ⟨rfl, v2', hL2, hK2, hf2⟩
                      obtain ⟨hM6, hb6⟩ := HM5.out.second hL2 hK2 hf2 HB5.out.size
                      have HM6 := Lib.hid hM6
                      have HB6 := Lib.hid (HB5.out.trans hb6)
                      clear hM6 hb6 hL2 hK2 hf2
                      go_wp2_with fail
                      go_roundw
                      case measure => simp [intOf]; omega
                      case rel => exact ⟨k + 1, v1', v2', _, sl, by omega, by go_num, HM6.out, HOK, by omega, HB6.out⟩
                    | false =>
                      obtain ⟨s0, hs0, hps0⟩ := hinv.1 rfl
                      rw [hps0, (show openB (sealS s0) = true from (open_seal s0).1), (show openS (sealS s0) = s0 from (open_seal s0).2)] at HT1
                      have HIN := Lib.hid (in_mem hs0)
                      clear hinv hs0 hps0
                      go_wp2_with fail
                      refine HA1.out.mono ?_
                      rintro e w3 ⟨rfl, rfl⟩
                      go_wp2_with fail
                      (refine wp_region_still_lit (by kernel_rfl) (by kernel_rfl) ?_; rw [hW7]; clear hW7; refine StillH.out ?_; (repeat (first | (refine still_h (fun K hK => ?_); go_simp; refine hK _ ?_; clear hK K) | (refine still_h (fun K hK => ?_); go_simp; refine ⟨_, HLEN.out, hK _ ?_⟩; clear hK K))); refine still_end ?_)
                      go_wp2_with fail
                      refine HT1.out.mono ?_
                      rintro e w5 ⟨rfl, v1', hL1, hK1, hf1⟩
                      obtain ⟨hM5, hb5⟩ := HM7.out.first hL1 hK1 hf1 HB7.out.size
                      have z1 := box_keep hK1 HZ7.out HFx.out u1
                      have HM5 := Lib.hid hM5
                      have HB5 := Lib.hid (HB7.out.trans hb5)
                      clear hM5 hb5 hL1 hK1 hf1 u1 q1
                      go_wp2_with fail
                      refine (HT2.out w5 v2 HM5.out.r).mono ?_
                      rintro e w6 ⟨rfl, v2', hL2, hK2, hf2⟩
                      obtain ⟨hM6, hb6⟩ := HM5.out.second hL2 hK2 hf2 HB5.out.size
                      have HM6 := Lib.hid hM6
                      have HB6 := Lib.hid (HB5.out.trans hb6)
                      have HCI := Lib.hid (inS_any sa sc sl s0 w6 hM6.own.here (by omega))
                      rw [HIN.out] at HCI
                      clear hM6 hb6 hL2 hK2 hf2
                      go_wp2_with (first | ((with_reducible refine HCI.out.mono ?_); rintro e w8 ⟨rfl, rfl⟩))
                      go_roundw
                      case measure => simp [intOf]; omega
                      case rel => exact ⟨k + 1, v1', v2', _, sl, by omega, by go_num, HM6.out, HOK, by omega, HB6.out⟩
                  · obtain rfl : ps = [] := List.length_eq_zero_iff.1 (by omega)
                    have HA1 := Lib.hid (at_nil_ref c1 HMx.out.r)
                    have HT1 := Lib.hid (take_any c1 (fun p hp => by simp at hp) HMx.out.a)
                    have HT2 := Lib.hid (fun (w' : World) (v : Value) (hl : Lk 38 (w9.heap.size + 1) v 50 [] w') => take_ref c1 (fun p hp => by simp at hp) hl)
                    rw [show takeS c1 [] = ByteArray.empty from rfl, show takeB c1 [] = false from rfl, show goneE [] = 10 from rfl, show goneL c1 [] = [] from rfl] at HT1
                    go_wp2_with fail
                    refine HA1.out.mono ?_
                    rintro e w3 ⟨rfl, rfl⟩
                    go_wp2_with fail
                    refine HT1.out.mono ?_
                    rintro e w5 ⟨rfl, v1', hL1, hK1, hf1⟩
                    obtain ⟨hM5, hb5⟩ := HMx.out.first hL1 hK1 hf1 HSB.out
                    have z1 := box_keep hK1 HZx.out HFx.out q1
                    have HM5 := Lib.hid hM5
                    have HB5 := Lib.hid (HBEL.out.trans hb5)
                    clear hM5 hb5 hL1 hK1 hf1
                    go_wp2_with fail
                    refine (HT2.out w5 v2 HM5.out.r).mono ?_
                    rintro e w6 ⟨rfl, v2', hL2, hK2, hf2⟩
                    obtain ⟨hM6, hb6⟩ := HM5.out.second hL2 hK2 hf2 HB5.out.size
                    have HM6 := Lib.hid hM6
                    have HB6 := Lib.hid (HB5.out.trans hb6)
                    clear hM6 hb6 hL2 hK2 hf2
                    go_wp2_with fail
                    go_roundw
                    case measure => simp [intOf]; omega
                    case rel => exact ⟨k + 1, v1', v2', _, sl, by omega, by go_num, HM6.out, hoi, by omega, HB6.out⟩
                · skip
                  go_wp2_with fail
                  go_roundw
                  case measure => simp [intOf]; omega
                  case rel => exact ⟨k + 1, v1, v2, ps, sl, by omega, by go_num, HMx.out, hoi, by omega, HBEL.out⟩
      · obtain rfl : k = l.length := by omega
        go_wp2_with fail
        go_ret
        exact ⟨rfl, hbr⟩
theorem true_own : ownKnob Try.prog.godebug = none := by kernel_rfl
theorem true_laid : laidOutB Try.prog = true := by kernel_rfl

set_option maxRecDepth 100000 in
theorem true_lifted (os : Os) (started : os.Started) (H : Type) (enc : TypeId × Value → H) :
    ReturnsInHanded {} Try.checked os 3 .any (Rows.linkTrueSpec.pre6 enc Try.prog Try.f3 Rows.linkTrueRow.domain false) (Rows.linkTrueSpec.post enc Try.prog Try.f3 false true false false) := by
  refine law_lifted (C := Try.checked) 4 true_own started (by kernel_rfl) Try.func3 true_laid rfl (by kernel_rfl) Try.underlying4 (by kernel_rfl)
    (fun ds h => by match ds, h with | [_], _ => rfl)
    (ChangeSpec.witness6 (enc := enc) (C := Try.checked) false ⟨#[], #[.slice none 0 0], []⟩ 8 (by kernel_rfl) (by kernel_rfl) (by kernel_rfl) (by kernel_rfl)) ?_
  intro W base args ds p hval0 hA0 hfz hz0
  have hz : ∀ (j : Nat) t d, Try.f3.params.toList[j]? = some t → ds[j]? = some d → ∀ n ∈ d.weights Try.prog t, n ≤ reachBytes := hz0
  have hval : ∀ (j : Nat) t v, Try.f3.params[j]? = some t → args[j]? = some v → Value.okWide Try.prog W .any base t v := hval0
  have hA : DataW.TrodAll enc Try.prog W 0 (fun _ => true) true Try.f3.params.toList args.toList ds p := hA0
  rw [Try.params3] at hA hval
  obtain ⟨v0, vs0, d0, ds0, p0, q0, hargs, rfl, rfl, h0, r0⟩ := trodAll_cons hA
  obtain ⟨rfl, rfl, rfl⟩ := trodAll_nil r0
  obtain rfl : args = #[v0] := by cases args; simp_all
  obtain ⟨l0, ao0, cap0, rfl, c0⟩ := Rd.arg_slice at_22 Try.underlying22 (hval 0 22 v0 rfl rfl) h0 (hz 0 22 d0 rfl rfl)
  exact law_true ao0 cap0 l0 W c0

theorem true_holds : Rows.LinkTrueSaid :=
  OpenClaim.holds_of_wide 3 Try.f3 rfl rfl rfl rfl rfl rfl rfl ⟨rfl, rfl, rfl, rfl, rfl⟩ rfl rfl rfl rfl rfl (by kernel_rfl) Try.func3 (by kernel_rfl)
    (of_decide_eq_true (by kernel_rfl)) (by unfold Func.isWrapper; rw [if_neg (of_decide_eq_false (by kernel_rfl))]; exact ⟨rfl, rfl⟩)
    (fun os started H enc _ => true_lifted os started H enc)

end Go.Proofs.Ythloiancndlagaa
