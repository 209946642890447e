/- A link: Turn. -/
import Derived.Test.YthloiancndlagaaLk6
import Derived.Test.YthloiancndlagaaCrcB
namespace Go.Proofs.Ythloiancndlagaa
open Go.RowKit Lift Crc
set_option linter.unusedSimpArgs false
set_option linter.unusedVariables false

theorem atN_big (k : Int) (n : Nat) (h0 : 0 < n) (h1 : n ≤ 100000) : atN k n < n ∧ IntKind.u64.wrap (n : Int) = (n : Int) ∧ (IntKind.u64.wrap k).tmod (n : Int) = (atN k n : Int) ∧ wrap64 (atN k n : Int) = (atN k n : Int) := by
  obtain ⟨i, hi, e1, e2, e3⟩ := mod_index k n h0 (by omega)
  have h2 : 0 ≤ IntKind.u64.wrap k := by rw [IntKind.wrap_u64]; omega
  have : (IntKind.u64.wrap k).tmod (n : Int) = (atN k n : Int) := by
    obtain ⟨m, hm⟩ : ∃ m : Nat, IntKind.u64.wrap k = (m : Int) := ⟨(IntKind.u64.wrap k).toNat, by omega⟩
    unfold atN
    rw [hm, ← Int.ofNat_tmod]
    rfl
  rw [this] at e2
  have e4 : atN k n = i := by omega
  rw [e4]
  exact ⟨hi, e1, by rw [this, e4], e3⟩
/-- A text whose byte is turned. -/
def turnT (s : ByteArray) (a : Int) (y : UInt8) : ByteArray := ⟨(s.data.toList.set (atN a s.size) (s.data.toList.getD (atN a s.size) 0 ^^^ y)).toArray⟩
theorem turn_size (s : ByteArray) (a : Int) (y : UInt8) : (turnT s a y).size = s.size := by show (List.set _ _ _).toArray.size = _; simp
def turnL (k a : Int) (y : UInt8) (l : List Pk) : List Pk := if 0 < l.length then (if (goneP k l).2 then l else if y = 0 then l else l.set (atN k l.length) (turnT (goneP k l).1 a y, true)) else l
def turnE (k : Int) (y : UInt8) (l : List Pk) : Int := if 0 < l.length then (if (goneP k l).2 then 11 else if y = 0 then 3 else 0) else 10
set_option maxHeartbeats 4000000 in
set_option maxRecDepth 100000 in
theorem turn_any {b : Nat} {v : Value} {room : Nat} {l : List Pk} {w : World} (k a : Int) (y : UInt8) (hs : ∀ p ∈ l, 2 ≤ p.1.size ∧ p.1.size ≤ 12002) (h : Lk 55 b v room l w) :
    Calls Try.prog 19 #[.pointer (some ⟨b, 0, none⟩), .int .i64 k, .int .i64 a, .int .u8 y.toNat] w (LkPost 55 b v room (turnL k a y l) (.int .i64 (turnE k y l)) w) := by
  by_cases hl : 0 < l.length
  · obtain ⟨p, h1, h2, h3, h4⟩ := gone_some k hl h.le
    have hle := h.le
    have hi := (atN_facts k l.length hl hle).1
    have HA := Lib.hid (at_any k h hl)
    obtain ⟨hp2, hp3⟩ := hs p (List.mem_of_getElem? h1)
    obtain ⟨ao, cap, rfl⟩ := h.own.form
    obtain ⟨g0, off, hao, _, hgl, hok, y0, y1⟩ := pk_get h.own.here h1
    obtain ⟨g, hao'⟩ := h.own.block (by rw [hao]; simp [Value.ownBlock])
    rw [hao'] at hao
    simp only [Option.some.injEq, Addr.mk.injEq, and_true] at hao
    obtain ⟨rfl, rfl⟩ := hao
    subst hao'
    unfold turnL turnE
    rw [if_pos hl, if_pos hl, h4]
    have HH := Lib.hid h
    have c1 := h.c1
    have f1 := h.f1
    have hbl := h.lt
    have hbg := (h.own.lt g rfl).1
    have hfr0 := h.own.free (atN k l.length * 2)
    have hfr1 := h.own.free (atN k l.length * 2 + 1)
    have HST := Lib.hid (fun (W : World) (hb : Below w.heap.size w W) (t : ByteArray) (ht : t.size ≤ 12002) => ((h.step hb).own.store (k := atN k l.length) hi (cs := cellsPk (t, true)) (pk_rel _ _ (t, true) ⟨by show t.size ≤ 140737488351232; omega, trivial⟩)))
    generalize atN k l.length = i at *
    have hi1 : (i : Int) < (l.length : Int) := by omega
    have hi2 : i ≤ 1000 := by omega
    simp only [Nat.zero_add] at y0 y1
    obtain ⟨t, tb⟩ := p
    simp only at y0 y1 hp2 hp3 ⊢
    clear h h1 h2 h3 h4 hok hs
    cases tb with
    | true =>
      go_enter Try.func19, Try.ntmps19
      go_wp2_with fail
      refine HA.out.mono ?_
      rintro e w1 ⟨rfl, rfl⟩
      go_wp2_with fail
      go_ret
      exact ⟨rfl, _, HH.out, Kept.refl _ _, fun k hk => .inl hk⟩
    | false =>
      by_cases hb0 : y = 0
      · subst hb0
        go_enter Try.func19, Try.ntmps19
        go_wp2_with fail
        refine HA.out.mono ?_
        rintro e w1 ⟨rfl, rfl⟩
        go_wp2_with fail
        go_ret
        exact ⟨rfl, _, HH.out, Kept.refl _ _, fun k hk => .inl hk⟩
      · have hb1 : ((y.toNat : Int) == 0) = false := by
          rw [beq_eq_false_iff_ne]; intro e; exact hb0 (UInt8.toNat_inj.1 (by simpa using e))
        simp only [Bool.false_eq_true, if_false, if_neg hb0]
        obtain ⟨q, hq⟩ : ∃ q, turnT t a y = q := ⟨_, rfl⟩
        rw [hq]
        unfold turnT at hq
        have hqs : q.size ≤ 12002 := by rw [← hq]; exact (turn_size t a y).symm ▸ hp3
        have HQS := Lib.hid hqs
        clear hqs hb0
        obtain ⟨m, hm⟩ : ∃ m, atN a t.size = m := ⟨_, rfl⟩
        have hcv := Lib.run_convert_string_bytes (P := Try.prog) w 9 65 5 t (u := .string) Try.underlying9 Try.underlying65 Try.underlying5
        have hbw := Lib.bytesWorld_below w 5 t
        have hbs := Lib.bytesWorld_size w 5 t
        have hB := bytes_new w 5 t
        generalize Lib.bytesWorld w 5 t = W at *
        generalize grownCap w t.size 0 5 = cap2 at *
        have hml := (atN_big a t.size (by omega) (by omega)).1
        obtain ⟨_, e1, e2, e3⟩ := atN_big a t.size (by omega) (by omega)
        rw [hm] at hq hml e2 e3
        have hlt : 2 ≤ (t.size : Int) := Int.ofNat_le.2 hp2
        have hc := hB.cell m (by simpa using hml)
        have hf := hB.free m (by simpa using hml)
        have hset := fun c => hB.set m (c ^^^ y) _ (xor_u8 c y)
        generalize t.data.toList.getD m 0 = c at *
        have hback := (hset c).string (P := Try.prog) 65 9 5 cap2 t.size (by simp) Try.underlying65 Try.underlying5 Try.underlying9
        rw [hq] at hback
        have z0 := (hbw.cell (p := ⟨g, i * 2, none⟩) hgl).trans y0
        have z1 := (hbw.cell (p := ⟨g, i * 2 + 1, none⟩) hgl).trans y1
        have zf0 := (hbw.frozen (p := ⟨g, i * 2, none⟩) hgl).trans hfr0
        have zf1 := (hbw.frozen (p := ⟨g, i * 2 + 1, none⟩) hgl).trans hfr1
        have hne1 : ¬ g = w.heap.size := by omega
        have hne2 : ¬ w.heap.size = g := by omega
        have hml2 : (m : Int) < (t.size : Int) := Int.ofNat_lt.2 hml
        have HBW := Lib.hid hbw
        clear hset hB hm hq e3
        go_enter Try.func19, Try.ntmps19
        go_wp2_with fail
        refine HA.out.mono ?_
        rintro e w1 ⟨rfl, rfl⟩
        go_wp2_with fail
        go_ret
        have hb6 : Below w.heap.size w (W.setCell ⟨w.heap.size, m, none⟩ (.int .u8 (bits .xor .u8 (c.toNat : Int) (y.toNat : Int)))) := HBW.out.setCell (Nat.le_refl _) _
        obtain ⟨r1, r2⟩ := HST.out _ hb6 q HQS.out
        have hL6 := HH.out.step hb6
        have hK6 : Kept (fun j => j = g) w _ := (Kept.of_below hb6 (fun j => j = g)).trans r2 (fun _ _ h => h) (fun _ _ h => h)
        refine ⟨rfl, .slice (some ⟨g, 0, none⟩) l.length cap, ⟨?_, ?_, ?_, ?_, ?_, ?_⟩, hK6.wide (fun k _ hk => .inr (by rw [show k = g from hk]; rfl)), fun k hk => .inl hk⟩
        · exact Nat.lt_of_lt_of_le hbl hK6.size
        · exact (hK6.cell (p := ⟨b, 0, none⟩) hbl (by show ¬ b = g; omega)).trans HH.out.c0
        · exact (hK6.cell (p := ⟨b, 1, none⟩) hbl (by show ¬ b = g; omega)).trans c1
        · exact (hK6.frozen (p := ⟨b, 1, none⟩) hbl (by show ¬ b = g; omega)).trans f1
        · exact r1
        · rw [List.length_set]; exact hle
  · obtain rfl : l = [] := List.length_eq_zero_iff.1 (by omega)
    have HA := Lib.hid (at_nil k h)
    have HH := Lib.hid h
    have e1 : turnL k a y [] = [] := rfl
    have e2 : turnE k y [] = 10 := rfl
    rw [e1, e2]
    clear h hl e1 e2 hs
    go_enter Try.func19, Try.ntmps19
    go_wp2_with fail
    refine HA.out.mono ?_
    rintro e w1 ⟨rfl, rfl⟩
    go_wp2_with fail
    go_ret
    exact ⟨rfl, v, HH.out, Kept.refl _ _, fun k hk => .inl hk⟩
end Go.Proofs.Ythloiancndlagaa
