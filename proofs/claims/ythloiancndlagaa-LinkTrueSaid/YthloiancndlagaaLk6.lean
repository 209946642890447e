/- A link: Twice and Turn. -/
import Derived.Test.YthloiancndlagaaLk5
namespace Go.Proofs.Ythloiancndlagaa
open Go.RowKit Lift
set_option linter.unusedSimpArgs false
set_option linter.unusedVariables false

def twiceL (room : Nat) (k : Int) (l : List Pk) : List Pk := if 0 < l.length then putL room l (goneP k l) else l
def twiceE (room : Nat) (l : List Pk) : Int := if 0 < l.length then putE room l else 10
set_option maxHeartbeats 4000000 in
set_option maxRecDepth 100000 in
theorem twice_any {b : Nat} {v : Value} {room : Nat} {l : List Pk} {w : World} (k : Int) (hroom : room ≤ 1000) (h : Lk 55 b v room l w) :
    Calls Try.prog 17 #[.pointer (some ⟨b, 0, none⟩), .int .i64 k] w (LkPost 55 b v room (twiceL room k l) (.int .i64 (twiceE room l)) w) := by
  by_cases hl : 0 < l.length
  · obtain ⟨p, h1, h2, h3, h4⟩ := gone_some k hl h.le
    have hle := h.le
    have hi := (atN_facts k l.length hl hle).1
    have HA := Lib.hid (at_any k h hl)
    obtain ⟨ao, cap, rfl⟩ := h.own.form
    obtain ⟨g0, off, rfl, _, hgl, hok, y0, y1⟩ := pk_get h.own.here h1
    have e1 : twiceL room k l = putL room l p := by unfold twiceL; rw [if_pos hl, h4]
    have e2 : twiceE room l = putE room l := if_pos hl
    rw [e1, e2]
    have HP := Lib.hid (put_any p hok hroom h)
    have c1 := h.c1
    unfold encPk at HP
    generalize atN k l.length = i at *
    have hi1 : (i : Int) < (l.length : Int) := by omega
    have hi2 : i ≤ 1000 := by omega
    clear h h1 h2 h3 h4 e1 e2 hok
    go_enter Try.func17, Try.ntmps17
    go_wp2_with fail
    refine HA.out.mono ?_
    rintro e w1 ⟨rfl, rfl⟩
    go_wp2_with fail
    refine HP.out.mono ?_
    rintro e w2 ⟨rfl, v2, hL2, hK2, hf2⟩
    go_wp2_with fail
    go_ret
    exact ⟨rfl, v2, hL2, hK2, hf2⟩
  · obtain rfl : l = [] := List.length_eq_zero_iff.1 (by omega)
    have HA := Lib.hid (at_nil k h)
    have HH := Lib.hid h
    have e1 : twiceL room k [] = [] := rfl
    have e2 : twiceE room [] = 10 := rfl
    rw [e1, e2]
    clear h hl e1 e2
    go_enter Try.func17, Try.ntmps17
    go_wp2_with fail
    refine HA.out.mono ?_
    rintro e w1 ⟨rfl, rfl⟩
    go_wp2_with fail
    go_ret
    exact ⟨rfl, v, HH.out, Kept.refl _ _, fun k hk => .inl hk⟩
set_option maxHeartbeats 4000000 in
set_option maxRecDepth 100000 in
theorem twice_ref {b : Nat} {v : Value} {room : Nat} {l : List Pk} {w : World} (k : Int) (hroom : room ≤ 1000) (h : Lk 38 b v room l w) :
    Calls Try.prog 18 #[.pointer (some ⟨b, 0, none⟩), .int .i64 k] w (LkPost 38 b v room (twiceL room k l) (.int .i64 (twiceE room l)) w) := by
  obtain ⟨i0, hi0, hz0, hz1, hz2⟩ := pkr_info0
  have HI := Lib.hid hi0; have HZ0 := Lib.hid hz0; have HZ1 := Lib.hid hz1; have HZ2 := Lib.hid hz2
  clear hi0 hz0 hz1 hz2
  by_cases hl : 0 < l.length
  · obtain ⟨p, h1, h2, h3, h4⟩ := gone_some k hl h.le
    have hle := h.le
    have hi := (atN_facts k l.length hl hle).1
    have HA := Lib.hid (at_ref k h hl)
    obtain ⟨ao, cap, rfl⟩ := h.own.form
    obtain ⟨g0, off, rfl, _, hgl, hok, y0, y1⟩ := pk_get h.own.here h1
    have e1 : twiceL room k l = putL room l p := by unfold twiceL; rw [if_pos hl, h4]
    have e2 : twiceE room l = putE room l := if_pos hl
    rw [e1, e2]
    have hL2 := h.step (Below.refl _ w).drew
    have HL2 := Lib.hid hL2
    have HL3 := Lib.hid (hL2.step (Below.refl _ _).drew)
    have HOK := Lib.hid hok
    have c0 := h.c0
    have c1 := h.c1
    have f1 := h.f1
    have hlt := h.lt
    have HS3 := Lib.hid (show b + 1 ≤ w.drew.drew.heap.size from hlt)
    have HH := Lib.hid h
    generalize atN k l.length = i at *
    have hi0 : ¬ (i : Int) < 0 := by omega
    have hi1 : (i : Int) < (l.length : Int) := by omega
    have hi2 : i ≤ 1000 := by omega
    clear h h1 h2 h3 h4 e1 e2 hok hL2
    by_cases hr : room ≤ l.length
    · have hd : decide ((room : Int) ≤ (l.length : Int)) = true := by simp; omega
      have hd2 : decide (room ≤ l.length) = true := by simpa using hr
      rw [show putE room l = 4 from if_pos hr, show putL room l p = l from if_pos hr]
      clear hr
      go_enter Try.func18, Try.ntmps18
      go_wp2_with fail
      refine HA.out.mono ?_
      rintro e w1 ⟨rfl, rfl⟩
      go_wp2_with fail
      (refine wp_region_still_lit (by kernel_rfl) (by kernel_rfl) ?_; refine StillH.out ?_; (repeat (refine still_h (fun K hK => ?_); go_simp; refine hK _ ?_; clear hK K)); refine still_end ?_)
      go_wp2_with fail
      go_ret
      exact ⟨rfl, _, HL2.out, Kept.of_below (Below.refl _ w).drew _, fun k hk => .inl hk⟩
    · have hd : decide ((room : Int) ≤ (l.length : Int)) = false := by simp; omega
      have hd2 : decide (room ≤ l.length) = false := by simpa using hr
      have hlt2 : l.length < room := by omega
      rw [show putE room l = 0 from if_neg hr, show putL room l p = l ++ [p] from if_neg hr]
      clear hr
      go_enter Try.func18, Try.ntmps18
      go_wp2_with fail
      refine HA.out.mono ?_
      rintro e w1 ⟨rfl, rfl⟩
      go_wp2_with fail
      (refine wp_region_still_lit (by kernel_rfl) (by kernel_rfl) ?_; refine StillH.out ?_; (repeat (refine still_h (fun K hK => ?_); go_simp; refine hK _ ?_; clear hK K)); refine still_end ?_)
      go_wp2_with fail
      clear hd hd2
      go_region_law (refine step_push rPk rfl (.tmp 25) (.tmp 33) 39 rfl (b + 1) 38 i0 _ 24 Try.underlying39 HI.out HZ0.out HZ1.out HZ2.out rfl (by decide) (fun _ => True) _ l (by rfl) HL3.out.own (cellsPk p) p _ (by rfl) (by simp) (pk_rel _ _ _ HOK.out) (by simp [cellsPk, Value.oneCell']) (by unfold maxLen; omega) (by omega) HS3.out ?_; intro v2 w2 hO2 hK2 hw2; obtain ⟨ao2, cap2, rfl⟩ := hO2.form; obtain ⟨y0, y1, yf, ylt⟩ := HL3.out.pushed hK2)
      all_goals
        have hR := HL3.out.put hK2 hO2 (by rw [List.length_append]; simp; omega) (by
          rcases hw2 with e | ⟨g, e, hg⟩
          · exact .inl e
          · exact .inr (.inr ⟨g, e, Nat.le_of_lt hg⟩))
        simp only [List.length_append, List.length_cons, List.length_nil, Nat.zero_add] at hR
        have hb6 : Below w.heap.size w w.drew.drew := (Below.refl _ w).drew.drew
        go_wp2_with fail
        go_ret
        exact ⟨rfl, _, hR.1, (Kept.of_below hb6 _).trans hR.2.1 (fun _ _ h => h) (fun _ _ h => h), fun k hk => (hR.2.2 k hk).imp id (fun h => h)⟩
  · obtain rfl : l = [] := List.length_eq_zero_iff.1 (by omega)
    have HA := Lib.hid (at_nil_ref k h)
    have HH := Lib.hid h
    have e1 : twiceL room k [] = [] := rfl
    have e2 : twiceE room [] = 10 := rfl
    rw [e1, e2]
    clear h hl e1 e2
    go_enter Try.func18, Try.ntmps18
    go_wp2_with fail
    refine HA.out.mono ?_
    rintro e w1 ⟨rfl, rfl⟩
    go_wp2_with fail
    go_ret
    exact ⟨rfl, v, HH.out, Kept.refl _ _, fun k hk => .inl hk⟩
end Go.Proofs.Ythloiancndlagaa
