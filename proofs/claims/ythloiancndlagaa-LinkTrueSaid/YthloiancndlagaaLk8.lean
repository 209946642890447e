/- The document's Turn. -/
import Derived.Test.YthloiancndlagaaLk7
namespace Go.Proofs.Ythloiancndlagaa
open Go.RowKit Lift Crc
set_option linter.unusedSimpArgs false
set_option linter.unusedVariables false

set_option maxHeartbeats 4000000 in
set_option maxRecDepth 100000 in
theorem turn_ref {b : Nat} {v : Value} {room : Nat} {l : List Pk} {w : World} (k a : Int) (y : UInt8) (hs : ∀ p ∈ l, 2 ≤ p.1.size ∧ p.1.size ≤ 12002) (h : Lk 38 b v room l w) :
    Calls Try.prog 20 #[.pointer (some ⟨b, 0, none⟩), .int .i64 k, .int .i64 a, .int .u8 y.toNat] w (LkPost 38 b v room (turnL k a y l) (.int .i64 (turnE k y l)) w) := by
  obtain ⟨i0, hi0, hz0, hz1, hz2⟩ := pkr_info0
  have HI := Lib.hid hi0; have HZ0 := Lib.hid hz0; have HZ1 := Lib.hid hz1; have HZ2 := Lib.hid hz2
  clear hi0 hz0 hz1 hz2
  by_cases hl : 0 < l.length
  · obtain ⟨p, h1, h2, h3, h4⟩ := gone_some k hl h.le
    have hle := h.le
    have hi := (atN_facts k l.length hl hle).1
    have HA := Lib.hid (at_ref k h hl)
    obtain ⟨hp2, hp3⟩ := hs p (List.mem_of_getElem? h1)
    obtain ⟨ao, cap, rfl⟩ := h.own.form
    obtain ⟨g0, off, hao, _, hgl, hok, y0, y1⟩ := pk_get h.own.here h1
    obtain ⟨g, hao'⟩ := h.own.block (by rw [hao]; simp [Value.ownBlock])
    rw [hao'] at hao
    simp only [Option.some.injEq, Addr.mk.injEq, and_true] at hao
    obtain ⟨rfl, rfl⟩ := hao
    subst hao'
    unfold turnL turnE
    rw [if_pos hl, if_pos hl, h4]
    have HH := Lib.hid h
    have c1 := h.c1
    have f1 := h.f1
    have hbl := h.lt
    have hSl : SlAt rPk (· < w.heap.size) w (some ⟨g, 0, none⟩) l := h.own.here
    have HSL := Lib.hid hSl
    have HP1 := Lib.hid h1
    generalize atN k l.length = i at *
    have hi0 : ¬ (i : Int) < 0 := by omega
    have hi1 : (i : Int) < (l.length : Int) := by omega
    have hi2 : i ≤ 1000 := by omega
    simp only [Nat.zero_add] at y0 y1
    obtain ⟨t, tb⟩ := p
    simp only at y0 y1 hp2 hp3 ⊢
    clear h h1 h2 h3 h4 hok hs hSl
    cases tb with
    | true =>
      go_enter Try.func20, Try.ntmps20
      go_wp2_with fail
      refine HA.out.mono ?_
      rintro e w1 ⟨rfl, rfl⟩
      go_wp2_with fail
      go_ret
      exact ⟨rfl, _, HH.out, Kept.refl _ _, fun k hk => .inl hk⟩
    | false =>
      by_cases hb0 : y = 0
      · subst hb0
        go_enter Try.func20, Try.ntmps20
        go_wp2_with fail
        refine HA.out.mono ?_
        rintro e w1 ⟨rfl, rfl⟩
        go_wp2_with fail
        go_ret
        exact ⟨rfl, _, HH.out, Kept.refl _ _, fun k hk => .inl hk⟩
      · have hb1 : ((y.toNat : Int) == 0) = false := by
          rw [beq_eq_false_iff_ne]; intro e; exact hb0 (UInt8.toNat_inj.1 (by simpa using e))
        simp only [Bool.false_eq_true, if_false, if_neg hb0]
        obtain ⟨q, hq⟩ : ∃ q, turnT t a y = q := ⟨_, rfl⟩
        rw [hq]
        unfold turnT at hq
        have hqs : q.size ≤ 12002 := by rw [← hq]; exact (turn_size t a y).symm ▸ hp3
        have HQS := Lib.hid hqs
        clear hqs hb0
        obtain ⟨m, hm⟩ : ∃ m, atN a t.size = m := ⟨_, rfl⟩
        have hcv := Lib.run_convert_string_bytes (P := Try.prog) w 9 65 5 t (u := .string) Try.underlying9 Try.underlying65 Try.underlying5
        have hbw := Lib.bytesWorld_below w 5 t
        have hbs := Lib.bytesWorld_size w 5 t
        have hB := bytes_new w 5 t
        generalize Lib.bytesWorld w 5 t = W at *
        generalize grownCap w t.size 0 5 = cap2 at *
        have hml := (atN_big a t.size (by omega) (by omega)).1
        obtain ⟨_, e1, e2, e3⟩ := atN_big a t.size (by omega) (by omega)
        rw [hm] at hq hml e2 e3
        have hlt : 2 ≤ (t.size : Int) := Int.ofNat_le.2 hp2
        have hc := hB.cell m (by simpa using hml)
        have hf := hB.free m (by simpa using hml)
        have hset := fun c => hB.set m (c ^^^ y) _ (xor_u8 c y)
        generalize t.data.toList.getD m 0 = c at *
        have HBK := Lib.hid (fun (w' : World) (hb : Below (w.heap.size + 1) (W.setCell ⟨w.heap.size, m, none⟩ (.int .u8 (bits .xor .u8 (c.toNat : Int) (y.toNat : Int)))) w') => ((hset c).keep hb (Nat.lt_succ_self _)).string (P := Try.prog) 65 9 5 cap2 t.size (by simp) Try.underlying65 Try.underlying5 Try.underlying9)
        rw [hq] at HBK
        have z0 := (hbw.cell (p := ⟨b, 1, none⟩) hbl).trans c1
        have zf := (hbw.frozen (p := ⟨b, 1, none⟩) hbl).trans f1
        have hne1 : ¬ b = w.heap.size := by omega
        have hne2 : ¬ w.heap.size = b := by omega
        have hml2 : (m : Int) < (t.size : Int) := Int.ofNat_lt.2 hml
        have HBW := Lib.hid hbw
        have HE3 := Lib.hid e3
        -- the world behind the byte
        obtain ⟨W6, hW6⟩ : ∃ W6, W.setCell ⟨w.heap.size, m, none⟩ (.int .u8 (bits .xor .u8 (c.toNat : Int) (y.toNat : Int))) = W6 := ⟨_, rfl⟩
        have hb6 : Below w.heap.size w W6 := by rw [← hW6]; exact hbw.setCell (Nat.le_refl _) _
        have hz6 : W6.heap.size = w.heap.size + 1 := by rw [← hW6]; simpa using hbs
        have c6 := (hb6.cell (p := ⟨b, 1, none⟩) hbl).trans c1
        rw [hW6] at HBK
        have HB6 := Lib.hid hb6
        have hO6 := own_made2 rPk (fun _ => True) W6 (w.heap.size + 1) (w.heap.size + 1) 38 (by omega) (by omega)
        have HO6 := Lib.hid hO6
        have HM6 := Lib.hid (slKept HSL.out (hb6.alloc (by omega) (.cells #[] 38)) (Nat.le_refl _) (.slice (some ⟨w.heap.size + 1, 0, none⟩) 0 0) (fun j hj => by have e : some (w.heap.size + 1) = some j := hj; injection e with e; omega))
        have FACT := Lib.hid (show ∀ (ao2 : Option Addr) (cap3 : Nat) (w2 : World), Own rPk (fun _ => True) w2 (w.heap.size + 1) 38 (.slice ao2 l.length cap3) l → Kept (fun k => some k = Value.ownBlock (.slice (some ⟨w.heap.size + 1, 0, none⟩) 0 0)) (W6.alloc (.cells #[] 38)) w2 →
            ∃ g2 : Nat, w2.cell? ⟨g2, i * 2, none⟩ = some (.string t) ∧ w2.cell? ⟨g2, i * 2 + 1, none⟩ = some (.bool false) ∧ w2.frozen? ⟨g2, i * 2, none⟩ = false ∧ w2.frozen? ⟨g2, i * 2 + 1, none⟩ = false ∧
              (convert 65 9 (.slice (some ⟨w.heap.size, 0, none⟩) t.size cap2)).run Try.prog w2 = .ok (.string q) w2 ∧ Below w.heap.size w w2 ∧ w2.cell? ⟨b, 1, none⟩ = some (.slice (some ⟨g, 0, none⟩) l.length cap) ∧ w2.frozen? ⟨b, 1, none⟩ = false ∧ ¬ b = g2 ∧ ¬ g2 = b ∧ ao2 = some ⟨g2, 0, none⟩ from by
          intro ao2 cap3 w2 hO2 hK2
          obtain ⟨gq, offq, haoq, _, _, _, u0, u1⟩ := pk_get hO2.here HP1.out
          obtain ⟨g2, hg2⟩ := hO2.block (by rw [haoq]; simp [Value.ownBlock])
          rw [hg2] at haoq
          simp only [Option.some.injEq, Addr.mk.injEq, and_true] at haoq
          obtain ⟨rfl, rfl⟩ := haoq
          subst hg2
          have hB2 : Below (w.heap.size + 1) W6 w2 := ((Below.refl _ W6).alloc (by omega) _).trans (HO6.out.kbelow (B := w.heap.size + 1) (Nat.le_refl _) (by simp; omega) hK2)
          have hB3 := HB6.out.trans (hB2.mono (Nat.le_succ _))
          have := (hO2.lt g2 rfl).1
          simp only [Nat.zero_add] at u0 u1
          exact ⟨g2, u0, u1, hO2.free _, hO2.free _, HBK.out w2 hB2, hB3, (hB3.cell (p := ⟨b, 1, none⟩) hbl).trans c1, (hB3.frozen (p := ⟨b, 1, none⟩) hbl).trans f1, by omega, by omega, rfl⟩)
        clear hset hB hm hq e3 hO6 hb6
        go_enter Try.func20, Try.ntmps20
        go_wp2_with fail
        refine HA.out.mono ?_
        rintro e w1 ⟨rfl, rfl⟩
        go_wp2_with (first
          | (rw [HE3.out])
          | (at_builtin; refine wpList_pushAll rPk rfl _ _ 39 rfl (w.heap.size + 1) 38 i0 _ 24 Try.underlying39 HI.out HZ0.out HZ1.out HZ2.out rfl (by decide) (fun _ => True) _ [] rfl HO6.out _ cap l rfl (fun e => by cases e) HM6.out pk_one (by unfold maxLen; simp; omega) (by simp; omega) (by simp; omega) ?_; intro v2 w2 hO2 hK2 hw2; rw [List.nil_append] at hO2; obtain ⟨ao2, cap3, rfl⟩ := hO2.form; obtain ⟨g2, u0, u1, uf0, uf1, hbk, hB2, v0, vf, hg3, hg4, hg5⟩ := FACT.out ao2 cap3 w2 hO2 hK2; subst hg5))
        go_ret
        obtain ⟨r1, r2⟩ := hO2.store (k := i) hi (cs := cellsPk (q, true)) (pk_rel _ _ (q, true) ⟨by have := HQS.out; show q.size ≤ 140737488351232; omega, trivial⟩)
        have hg9 := (hO2.lt g2 rfl).1
        have hB9 : Below w.heap.size w ((w2.setCell ⟨g2, i * 2, none⟩ (.string q)).setCell ⟨g2, i * 2 + 1, none⟩ (.bool true)) := (hB2.setCell (by show w.heap.size ≤ g2; omega) _).setCell (by show w.heap.size ≤ g2; omega) _
        have hR := HH.out.put (v' := .slice (some ⟨g2, 0, none⟩) l.length cap3) (l' := l.set i (q, true)) (Kept.of_below hB9 _) (r1.rebase (by omega)) (by rw [List.length_set]; exact hle) (.inr (.inr ⟨g2, rfl, by omega⟩))
        exact ⟨rfl, _, hR.1, hR.2.1, hR.2.2⟩
  · obtain rfl : l = [] := List.length_eq_zero_iff.1 (by omega)
    have HA := Lib.hid (at_nil_ref k h)
    have HH := Lib.hid h
    have e1 : turnL k a y [] = [] := rfl
    have e2 : turnE k y [] = 10 := rfl
    rw [e1, e2]
    clear h hl e1 e2 hs
    go_enter Try.func20, Try.ntmps20
    go_wp2_with fail
    refine HA.out.mono ?_
    rintro e w1 ⟨rfl, rfl⟩
    go_wp2_with fail
    go_ret
    exact ⟨rfl, v, HH.out, Kept.refl _ _, fun k hk => .inl hk⟩
end Go.Proofs.Ythloiancndlagaa
