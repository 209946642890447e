/- A link: a packet is put behind the others. -/
import Derived.Test.YthloiancndlagaaLk1
namespace Go.Proofs.Ythloiancndlagaa
open Go.RowKit Lift
set_option linter.unusedSimpArgs false
set_option linter.unusedVariables false

theorem pk_info0 : ∃ i0, Try.prog.info? 55 = some i0 ∧ i0.zero = some (.agg #[.string ByteArray.empty, .bool false]) ∧ i0.size = 2 ∧ i0.bytes = 24 := info_parts pk_info
theorem pkr_info : (Try.prog.info? 38).map (fun i => (i.zero, i.size, i.bytes)) = some (some (.agg #[.string ByteArray.empty, .bool false]), 2, 24) := by kernel_rfl
theorem pkr_info0 : ∃ i0, Try.prog.info? 38 = some i0 ∧ i0.zero = some (.agg #[.string ByteArray.empty, .bool false]) ∧ i0.size = 2 ∧ i0.bytes = 24 := info_parts pkr_info
theorem Lk.step {e : TypeId} {b : Nat} {v : Value} {room : Nat} {l : List Pk} {w w' : World} (h : Lk e b v room l w) (hb : Below w.heap.size w w') : Lk e b v room l w' :=
  h.kept (Kept.of_below hb (fun _ => False)) (fun _ _ h => h)
theorem Lk.out {e : TypeId} {b : Nat} {v : Value} {room : Nat} {l : List Pk} {w : World} (h : Lk e b v room l w) : ¬ (fun k => some k = v.ownBlock) b := by
  intro hk
  have := (h.own.lt b hk.symm).1
  omega
theorem Lk.pushed {e : TypeId} {b : Nat} {v : Value} {room : Nat} {l : List Pk} {w w' : World} (h : Lk e b v room l w) (hK : Kept (fun k => some k = v.ownBlock) w w') :
    w'.cell? ⟨b, 0, none⟩ = some (.int .i64 room) ∧ w'.cell? ⟨b, 1, none⟩ = some v ∧ w'.frozen? ⟨b, 1, none⟩ = false ∧ b < w'.heap.size :=
  ⟨(hK.cell (p := ⟨b, 0, none⟩) h.lt h.out).trans h.c0, (hK.cell (p := ⟨b, 1, none⟩) h.lt h.out).trans h.c1, (hK.frozen (p := ⟨b, 1, none⟩) h.lt h.out).trans h.f1, Nat.lt_of_lt_of_le h.lt hK.size⟩
theorem Lk.put {e : TypeId} {b : Nat} {v v' : Value} {room : Nat} {l l' : List Pk} {w w' : World} (h : Lk e b v room l w) (hK : Kept (fun k => some k = v.ownBlock) w w') (hO : Own rPk (fun _ => True) w' (b + 1) e v' l') (hle : l'.length ≤ 1000)
    (hw : v'.ownBlock = v.ownBlock ∨ v'.ownBlock = none ∨ ∃ g, v'.ownBlock = some g ∧ w.heap.size ≤ g) :
    Lk e b v' room l' (w'.setCell ⟨b, 1, none⟩ v') ∧ Kept (foot b v) w (w'.setCell ⟨b, 1, none⟩ v') ∧ ∀ k, foot b v' k → foot b v k ∨ w.heap.size ≤ k := by
  obtain ⟨c0, c1, f1, hlt⟩ := h.pushed hK
  refine ⟨⟨by simpa using hlt, by simp [go_sem, c0], by simp [go_sem, c1], by simpa [go_sem] using f1, ?_, hle⟩, ?_, ?_⟩
  · refine hO.flat pk_flat (Kept.setCell (X := fun k => k = b) w' rfl v') ?_
    intro k hk e
    have := (hO.lt k hk).1
    omega
  · exact (hK.wide (fun k _ hk => .inr hk)).set (.inl rfl)
  · intro k hk
    rcases hk with rfl | hk
    · exact .inl (.inl rfl)
    · rcases hw with e | e | ⟨g, e, hg⟩
      · exact .inl (.inr (hk.trans e))
      · rw [e] at hk; cases hk
      · rw [e] at hk; cases hk; exact .inr hg
def putE (room : Nat) (l : List Pk) : Int := if room ≤ l.length then 4 else 0
def putL (room : Nat) (l : List Pk) (p : Pk) : List Pk := if room ≤ l.length then l else l ++ [p]
set_option maxHeartbeats 4000000 in
set_option maxRecDepth 100000 in
theorem put_any {b : Nat} {v : Value} {room : Nat} {l : List Pk} {w : World} (p : Pk) (hp : okPk p) (hroom : room ≤ 1000) (h : Lk 55 b v room l w) :
    Calls Try.prog 23 #[.pointer (some ⟨b, 0, none⟩), encPk p] w (LkPost 55 b v room (putL room l p) (.int .i64 (putE room l)) w) := by
  obtain ⟨i0, hi, hz0, hz1, hz2⟩ := pk_info0
  have HI := Lib.hid hi; have HZ0 := Lib.hid hz0; have HZ1 := Lib.hid hz1; have HZ2 := Lib.hid hz2
  clear hi hz0 hz1 hz2
  have hle := h.le
  have hbw : Below w.heap.size w (w.alloc (.cells #[.string p.1, .bool p.2] 55)) := (Below.refl _ _).alloc (Nat.le_refl _) _
  have HH := Lib.hid h
  obtain ⟨ao, cap, rfl⟩ := h.own.form
  obtain ⟨W2, hW2, hL, x0, x1, g0, g1, hB⟩ : ∃ W2, { (w.alloc (.cells #[.string p.1, .bool p.2] 55)) with drawn := (w.alloc (.cells #[.string p.1, .bool p.2] 55)).drawn + 1 } = W2 ∧ Lk 55 b (.slice ao l.length cap) room l W2 ∧ W2.cell? ⟨b, 0, none⟩ = some (.int .i64 room) ∧ W2.cell? ⟨b, 1, none⟩ = some (.slice ao l.length cap) ∧ W2.cell? ⟨w.heap.size, 0, none⟩ = some (.string p.1) ∧ W2.cell? ⟨w.heap.size, 1, none⟩ = some (.bool p.2) ∧ Below w.heap.size w W2 := by
    have h2 := h.step hbw.drew
    exact ⟨_, rfl, h2, h2.c0, h2.c1, by show (World.alloc _ _).cell? _ = _; simp [go_sem], by show (World.alloc _ _).cell? _ = _; simp [go_sem], hbw.drew⟩
  have HL := Lib.hid hL
  have HB := Lib.hid hB
  have hlt := hL.lt
  have hf1 := hL.f1
  clear h hL hB hbw
  unfold encPk
  by_cases hr : room ≤ l.length
  · have hd : decide ((room : Int) ≤ (l.length : Int)) = true := by simp; omega
    have hd2 : decide (room ≤ l.length) = true := by simpa using hr
    have e1 : putE room l = 4 := if_pos hr
    have e2 : putL room l p = l := if_pos hr
    rw [e1, e2]
    clear hr e1 e2
    go_enter Try.func23, Try.ntmps23
    go_wp2_with fail
    (refine wp_region_still_lit (by kernel_rfl) (by kernel_rfl) ?_; rw [hW2]; clear hW2; refine StillH.out ?_; (repeat (refine still_h (fun K hK => ?_); go_simp; refine hK _ ?_; clear hK K)); refine still_end ?_)
    go_wp2_with fail
    go_ret
    exact ⟨rfl, _, HL.out, Kept.of_below HB.out _, fun k hk => .inl hk⟩
  · have hd : decide ((room : Int) ≤ (l.length : Int)) = false := by simp; omega
    have hd2 : decide (room ≤ l.length) = false := by simpa using hr
    have hlt2 : l.length < room := by omega
    have e1 : putE room l = 0 := if_neg hr
    have e2 : putL room l p = l ++ [p] := if_neg hr
    rw [e1, e2]
    clear hr e1 e2
    go_enter Try.func23, Try.ntmps23
    go_wp2_with fail
    (refine wp_region_still_lit (by kernel_rfl) (by kernel_rfl) ?_; rw [hW2]; clear hW2; refine StillH.out ?_; (repeat (refine still_h (fun K hK => ?_); go_simp; refine hK _ ?_; clear hK K)); refine still_end ?_)
    go_wp2_with fail
    clear hd hd2
    have hL3 := HL.out.step (Below.refl _ _).drew
    have HL3 := Lib.hid hL3
    have HO3 := Lib.hid hL3.own
    have HB3 := Lib.hid HB.out.drew
    have HS3 := Lib.hid (show b + 1 ≤ W2.drew.heap.size from hlt)
    clear hL3
    go_region_law (refine step_push rPk rfl (.tmp 19) (.tmp 21) 49 rfl (b + 1) 55 i0 _ 24 Try.underlying49 HI.out HZ0.out HZ1.out HZ2.out rfl (by decide) (fun _ => True) _ l (by rfl) HO3.out (cellsPk p) p _ (by rfl) (by simp) (pk_rel _ _ _ hp) (by simp [cellsPk, Value.oneCell']) (by unfold maxLen; omega) (by omega) HS3.out ?_; intro v2 w2 hO2 hK2 hw2; obtain ⟨ao2, cap2, rfl⟩ := hO2.form; obtain ⟨y0, y1, yf, ylt⟩ := HL3.out.pushed hK2)
    all_goals
      have hR := HL3.out.put hK2 hO2 (by rw [List.length_append]; simp; omega) (by
        rcases hw2 with e | ⟨g, e, hg⟩
        · exact .inl e
        · exact .inr (.inr ⟨g, e, Nat.le_of_lt hg⟩))
      simp only [List.length_append, List.length_cons, List.length_nil, Nat.zero_add] at hR
      go_wp2_with fail
      go_ret
      exact ⟨rfl, _, hR.1, (Kept.of_below HB3.out _).trans hR.2.1 (fun _ _ h => h) (fun _ _ h => h), fun k hk => (hR.2.2 k hk).imp id (fun h => Nat.le_trans HB3.out.size h)⟩
/-- A text that is sealed. -/
def sealS (s : ByteArray) : ByteArray := s ++ ⟨(Crc.tail (Crc.crc s.data.toList)).toArray⟩
theorem seal_size (s : ByteArray) : (sealS s).size = s.size + 2 := by
  unfold sealS
  rw [ByteArray.size_append]
  rfl
def sendE (room : Nat) (l : List Pk) (s : ByteArray) : Int := if 12000 < s.size then 8 else putE room l
def sendL (room : Nat) (l : List Pk) (s : ByteArray) : List Pk := if 12000 < s.size then l else putL room l (sealS s, false)
set_option maxHeartbeats 4000000 in
set_option maxRecDepth 100000 in
theorem send_any {b : Nat} {v : Value} {room : Nat} {l : List Pk} {w : World} (s : ByteArray) (hroom : room ≤ 1000) (h : Lk 55 b v room l w) :
    Calls Try.prog 9 #[.pointer (some ⟨b, 0, none⟩), .string s] w (LkPost 55 b v room (sendL room l s) (.int .i64 (sendE room l s)) w) := by
  have HH := Lib.hid h
  unfold sendL sendE
  by_cases hs : 12000 < s.size
  · rw [if_pos hs, if_pos hs]
    have hd : decide ((12000 : Int) < (s.size : Int)) = true := by simp; omega
    clear hs h
    go_enter Try.func9, Try.ntmps9
    go_wp2_with fail
    go_ret
    exact ⟨rfl, _, HH.out, Kept.refl _ _, fun k hk => .inl hk⟩
  · rw [if_neg hs, if_neg hs]
    have hd : decide ((12000 : Int) < (s.size : Int)) = false := by simp; omega
    have HS := Lib.hid (show Calls Try.prog 24 #[.string s] w (fun e w' => e = .returned (.string (sealS s)) ∧ Below w.heap.size w w') from seal_any s w (by omega))
    have HP := Lib.hid (fun (w' : World) (hb : Below w.heap.size w w') => put_any (sealS s, false) (show okPk (sealS s, false) from ⟨by show (sealS s).size ≤ 140737488351232; rw [seal_size]; omega, trivial⟩) hroom (h.step hb))
    clear hs h
    go_enter Try.func9, Try.ntmps9
    go_wp2_with fail
    refine HS.out.mono ?_
    rintro e w1 ⟨rfl, hb1⟩
    go_wp2_with fail
    refine (HP.out _ hb1).mono ?_
    rintro e w2 ⟨rfl, v2, hL2, hK2, hf2⟩
    go_wp2_with fail
    go_ret
    exact ⟨rfl, v2, hL2, (Kept.of_below hb1 _).trans hK2 (fun _ _ h => h) (fun _ _ h => h), fun k hk => (hf2 k hk).imp id (fun h => Nat.le_trans hb1.size h)⟩
set_option maxHeartbeats 4000000 in
set_option maxRecDepth 100000 in
theorem send_ref {b : Nat} {v : Value} {room : Nat} {l : List Pk} {w : World} (s : ByteArray) (hroom : room ≤ 1000) (h : Lk 38 b v room l w) :
    Calls Try.prog 10 #[.pointer (some ⟨b, 0, none⟩), .string s] w (LkPost 38 b v room (sendL room l s) (.int .i64 (sendE room l s)) w) := by
  obtain ⟨i0, hi, hz0, hz1, hz2⟩ := pkr_info0
  have HI := Lib.hid hi; have HZ0 := Lib.hid hz0; have HZ1 := Lib.hid hz1; have HZ2 := Lib.hid hz2
  clear hi hz0 hz1 hz2
  have hle := h.le
  have HH := Lib.hid h
  obtain ⟨ao, cap, rfl⟩ := h.own.form
  unfold sendL sendE
  by_cases hs : 12000 < s.size
  · rw [if_pos hs, if_pos hs]
    have hd : decide ((12000 : Int) < (s.size : Int)) = true := by simp; omega
    clear hs h
    go_enter Try.func10, Try.ntmps10
    go_wp2_with fail
    go_ret
    exact ⟨rfl, _, HH.out, Kept.refl _ _, fun k hk => .inl hk⟩
  · rw [if_neg hs, if_neg hs]
    have hd : decide ((12000 : Int) < (s.size : Int)) = false := by simp; omega
    have HSS := Lib.hid (show ∀ w1 : World, Calls Try.prog 25 #[.string s] w1 (fun e w' => e = .returned (.string (sealS s)) ∧ Below w1.heap.size w1 w') from fun w1 => seal_ref s w1 (by omega))
    have HP : okPk (sealS s, false) := ⟨by show (sealS s).size ≤ 140737488351232; rw [seal_size]; omega, trivial⟩
    have HP := Lib.hid HP
    obtain ⟨W2, hW2, hL, x0, x1, hB⟩ : ∃ W2, { w with drawn := w.drawn + 1 } = W2 ∧ Lk 38 b (.slice ao l.length cap) room l W2 ∧ W2.cell? ⟨b, 0, none⟩ = some (.int .i64 room) ∧ W2.cell? ⟨b, 1, none⟩ = some (.slice ao l.length cap) ∧ Below w.heap.size w W2 := by
      have h2 := h.step (Below.refl _ w).drew
      exact ⟨_, rfl, h2, h2.c0, h2.c1, (Below.refl _ w).drew⟩
    have HL := Lib.hid hL
    have HB := Lib.hid hB
    have hlt := hL.lt
    have hf1 := hL.f1
    have z0 := h.c0
    have z1 := h.c1
    clear hs h hL hB
    by_cases hr : room ≤ l.length
    · have hd : decide ((room : Int) ≤ (l.length : Int)) = true := by simp; omega
      have hd2 : decide (room ≤ l.length) = true := by simpa using hr
      have e1 : putE room l = 4 := if_pos hr
      have e2 : putL room l (sealS s, false) = l := if_pos hr
      rw [e1, e2]
      clear hr e1 e2
      go_enter Try.func10, Try.ntmps10
      go_wp2_with fail
      (refine wp_region_still_lit (by kernel_rfl) (by kernel_rfl) ?_; rw [hW2]; clear hW2; refine StillH.out ?_; (repeat (refine still_h (fun K hK => ?_); go_simp; refine hK _ ?_; clear hK K)); refine still_end ?_)
      go_wp2_with fail
      go_ret
      exact ⟨rfl, _, HL.out, Kept.of_below HB.out _, fun k hk => .inl hk⟩
    · have hd : decide ((room : Int) ≤ (l.length : Int)) = false := by simp; omega
      have hd2 : decide (room ≤ l.length) = false := by simpa using hr
      have hlt2 : l.length < room := by omega
      have e1 : putE room l = 0 := if_neg hr
      have e2 : putL room l (sealS s, false) = l ++ [(sealS s, false)] := if_neg hr
      rw [e1, e2]
      clear hr e1 e2
      go_enter Try.func10, Try.ntmps10
      go_wp2_with fail
      (refine wp_region_still_lit (by kernel_rfl) (by kernel_rfl) ?_; rw [hW2]; clear hW2; refine StillH.out ?_; (repeat (refine still_h (fun K hK => ?_); go_simp; refine hK _ ?_; clear hK K)); refine still_end ?_)
      go_wp2_with fail
      clear hd hd2 z0 z1
      have HL3 := Lib.hid (HL.out.step (Below.refl _ _).drew)
      have HB3 := Lib.hid HB.out.drew
      have HS3 := Lib.hid (show b + 1 ≤ W2.drew.heap.size from hlt)
      go_region_law (first
        | (go_simp; go_at_call 25; refine (HSS.out _).mono ?_; rintro e w5 ⟨rfl, hb5⟩; have hL5 := HL3.out.step hb5; have u1 := hL5.c1; have ult := hL5.lt; have HL5 := Lib.hid hL5; clear hL5)
        | (refine step_push rPk rfl (.tmp 22) (.tmp 26) 39 rfl (b + 1) 38 i0 _ 24 Try.underlying39 HI.out HZ0.out HZ1.out HZ2.out rfl (by decide) (fun _ => True) _ l (by rfl) HL5.out.own (cellsPk (sealS s, false)) (sealS s, false) _ (by rfl) (by simp) (pk_rel _ _ _ HP.out) (by simp [cellsPk, Value.oneCell']) (by unfold maxLen; omega) (by omega) (by have := HS3.out; have := hb5.size; omega) ?_; intro v2 w2 hO2 hK2 hw2; obtain ⟨ao2, cap2, rfl⟩ := hO2.form; obtain ⟨y0, y1, yf, ylt⟩ := HL5.out.pushed hK2))
      all_goals
        have hR := HL5.out.put hK2 hO2 (by rw [List.length_append]; simp; omega) (by
          rcases hw2 with e | ⟨g, e, hg⟩
          · exact .inl e
          · exact .inr (.inr ⟨g, e, Nat.le_of_lt hg⟩))
        simp only [List.length_append, List.length_cons, List.length_nil, Nat.zero_add] at hR
        have hb6 := chain HB3.out hb5
        go_wp2_with fail
        go_ret
        exact ⟨rfl, _, hR.1, (Kept.of_below hb6 _).trans hR.2.1 (fun _ _ h => h) (fun _ _ h => h), fun k hk => (hR.2.2 k hk).imp id (fun h => Nat.le_trans hb6.size h)⟩
end Go.Proofs.Ythloiancndlagaa
