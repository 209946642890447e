/- Decode of the program is decL. -/
import Derived.Test.YtjcglbopggcmdaaDec
namespace Go.Proofs.Ytjcglbopggcmdaa
open Go.RowKit Lift
set_option linter.unusedSimpArgs false
set_option linter.unusedVariables false

theorem list_at (s : ByteArray) (h : 0 < s.size) : s.data.toList = s.data.toList.getD 0 0 :: s.data.toList.drop 1 := by
  have := drop_at s 0 h
  simpa using this
theorem extract_rest (s : ByteArray) (k : Nat) : (s.extract k s.size).data.toList = s.data.toList.drop k := by
  simp only [ByteArray.data_extract, Array.toList_extract, List.extract_eq_take_drop]
  rw [List.take_of_length_le (by simp)]
theorem ret_dpair {a b : ByteArray} {c d : Int} (h1 : a.data.toList = b.data.toList) (h2 : c = d) : Ending.returned (.tuple #[.string a, .int .i64 c]) = .returned (.tuple #[.string b, .int .i64 d]) := by
  rw [show a = b from ByteArray.ext (Array.toList_inj.1 h1), h2]

/-- What the loop of Decode keeps. -/
def DIn (s0 : ByteArray) (B : Nat) (w wr : World) (v : Value) : Prop :=
  ∃ (s : ByteArray) (acc : List UInt8) (x : Option Nat), s.size ≤ s0.size ∧ v = .string s ∧ Buf B x acc wr ∧ decL acc s.data.toList = decL [] s0.data.toList ∧ acc.length + s.size ≤ s0.size ∧ (∀ j, x = some j → B ≤ j) ∧ Below B w wr
theorem byte_list (s : ByteArray) : s.toList = s.data.toList := by
  have h : ∀ n i r, s.size - i = n → ByteArray.toList.loop s i r = r.reverse ++ s.data.toList.drop i := by
    intro n
    induction n with
    | zero =>
      intro i r h
      unfold ByteArray.toList.loop
      rw [if_neg (by omega), List.drop_of_length_le (by simp; omega)]
      simp
    | succ n ih =>
      intro i r h
      unfold ByteArray.toList.loop
      rw [if_pos (by omega), ih _ _ (by omega)]
      have hi : i < s.size := by omega
      rw [drop_at s i hi]
      simp [ByteArray.get!, List.getD_eq_getElem?_getD, getElem!_def]
      cases h2 : s.data[i]? with
      | some v => simp
      | none => rw [Array.getElem?_eq_none_iff] at h2; exfalso; have : s.size = s.data.size := rfl; omega
  unfold ByteArray.toList
  rw [h _ 0 [] rfl]
  simp
theorem isEmpty_no (s : ByteArray) (h : 0 < s.size) : (!s.toList.isEmpty) = true := by
  rw [byte_list]
  rw [list_at s h]
  rfl
theorem isEmpty_yes (s : ByteArray) (h : ¬ 0 < s.size) : (!s.toList.isEmpty) = false := by
  rw [byte_list]
  rw [List.eq_nil_of_length_eq_zero (l := s.data.toList) (by show s.data.toList.length = 0; rw [Array.length_toList]; show s.size = 0; omega)]
  rfl
theorem getD_drop (s : ByteArray) (k j : Nat) : (s.data.toList.drop k).getD j 0 = s.data.toList.getD (k + j) 0 := by
  simp [List.getD_eq_getElem?_getD]

set_option maxHeartbeats 1000000 in
set_option maxRecDepth 100000 in
theorem decode_any (s0 : ByteArray) (w : World) (hs : s0.size ≤ 1000000) :
    Calls Try.prog 10 #[.string s0] w (DecPost (decL [] s0.data.toList) w) := by
  go_enter Try.func10, Try.ntmps10
  go_wp2_with fail
  have hB0 := Buf.fresh w
  have hbw0 : Below w.heap.size w (w.alloc (.cells #[.pointer none, .slice none 0 0] 34)) := (Below.refl _ w).alloc (Nat.le_refl _) _
  have HB := Lib.hid hB0
  clear hB0
  go_loopw [0] (fun v0 wr => DIn s0 w.heap.size w wr v0) (fun v0 _ => match v0 with | .string s => s.size | _ => 0)
  case atStart => exact ⟨s0, [], none, by omega, rfl, HB.out, rfl, by simp, by simp, hbw0⟩
  case round =>
    obtain ⟨s, acc, x, hk, rfl, hB, hdec, hal, hx, hb⟩ := hrel
    by_cases hks : 0 < s.size
    · have hl := list_at s hks
      have hll : (s.data.toList.drop 1).length = s.size - 1 := by simp
      have hg0 := getD_drop s 1 0
      have hg1 := getD_drop s 1 1
      have hesc := escape_any s hks (by omega)
      obtain ⟨c, hcd⟩ : ∃ c, s.data.toList.getD 0 0 = c := ⟨_, rfl⟩
      rw [hcd] at hl hesc
      rw [getD_at s 0 hks] at hcd
      rw [hl] at hdec
      have hB' := hb.size
      have e1 := isEmpty_no s hks
      have hx1 : (1:Int) ≤ (s.size:Int) := by omega
      by_cases hc : Shown c ∨ Blank c
      · rw [decL_plain hc] at hdec
        have hdr := extract_rest s 1
        have hez : (s.extract 1 s.size).size = s.size - 1 := by simp
        rw [← hdr] at hdec
        have HDEC := Lib.hid hdec; have HEZ := Lib.hid hez
        clear hdec hl hll hg0 hg1 hesc hdr hez
        have h2 : decide (Shown c) = true ∨ (decide (Shown c) = false ∧ decide (Blank c) = true) := by
          by_cases h : Shown c
          · exact .inl (by simpa using h)
          · exact .inr ⟨by simpa using h, by simpa using (hc.resolve_left h)⟩
        clear hc
        rcases h2 with h2 | ⟨h2, h3⟩
        all_goals
          go_wp2_with (first | (go_at_call 17; refine (shown_any _ _).mono ?_; rintro e w1 ⟨rfl, rfl⟩) | (go_at_call 18; refine (blank_any _ _).mono ?_; rintro e w1 ⟨rfl, rfl⟩))
          refine (writeByte_any w.heap.size x acc c _ hB (by omega)).mono ?_
          rintro e w1 ⟨rfl, x', hB1, hk1, hw1⟩
          go_wp2_with fail
          go_roundw
          case measure => show (s.extract 1 s.size).size < s.size; rw [HEZ.out]; omega
          case rel =>
            refine ⟨_, acc ++ [c], x', by rw [HEZ.out]; omega, rfl, hB1, HDEC.out, by rw [HEZ.out]; simp; omega, ?_, hb.trans (hk1.below hB' (by rintro j (rfl | h); omega; exact hx j h.symm))⟩
            rcases hw1 with rfl | ⟨g, rfl, hg⟩
            · exact hx
            · intro j e; cases e; omega
      · obtain ⟨n, b, ee, hee⟩ : ∃ n b ee, escN s.size c.toNat (s.data.toList.getD 1 0).toNat (s.data.toList.getD 2 0).toNat = (n, b, ee) := ⟨_, _, _, rfl⟩
        rw [hee] at hesc
        have hstep := decL_esc (acc := acc) (l := s.data.toList.drop 1) hc (n := n) (b := b) (e := ee) (by rw [hll, hg0, hg1, show s.size - 1 + 1 = s.size by omega]; exact hee)
        have HESC := Lib.hid hesc; have HSTEP := Lib.hid hstep; have HDEC := Lib.hid hdec
        have h2 : decide (Shown c) = false := by simpa using fun h => hc (.inl h)
        have h3 : decide (Blank c) = false := by simpa using fun h => hc (.inr h)
        clear hesc hstep hdec hc hee hl hg0 hg1
        by_cases he0 : ee = 0
        · subst he0
          obtain ⟨hlen, hst1, hst2⟩ := HSTEP.out.2 rfl
          have hx3 : (3:Int) ≤ (s.size:Int) := by omega
          have hdr : (s.extract 3 s.size).data.toList = (s.data.toList.drop 1).drop 2 := by rw [extract_rest]; simp
          have hez : (s.extract 3 s.size).size = s.size - 3 := by simp
          have HEZ := Lib.hid hez; have HDR := Lib.hid hdr
          have H1 := Lib.hid hst1; have H2 := Lib.hid hst2
          clear hez hdr hst1 hst2 hll
          cases b with
          | true =>
            obtain ⟨hn, hst⟩ := H1.out rfl
            obtain ⟨q, rfl⟩ : ∃ q : UInt8, n = q.toNat := ⟨UInt8.ofNat n, by simp; omega⟩
            rw [show UInt8.ofNat q.toNat = q by simp] at hst
            have hd2 := HDEC.out
            rw [hst, ← HDR.out] at hd2
            have HD := Lib.hid hd2
            clear hst HSTEP H1 H2 hd2 HDEC HDR
            go_wp2_with (first | (go_at_call 17; refine (shown_any _ _).mono ?_; rintro e w1 ⟨rfl, rfl⟩) | (go_at_call 18; refine (blank_any _ _).mono ?_; rintro e w1 ⟨rfl, rfl⟩))
            refine (HESC.out _).mono ?_
            rintro e w1 ⟨rfl, hb1⟩
            have hB1 := hB.below hb1
            go_wp2_with fail
            refine (writeByte_any w.heap.size x acc q _ hB1 (by omega)).mono ?_
            rintro e w2 ⟨rfl, x', hB2, hk2, hw2⟩
            go_wp2_with fail
            go_roundw
            case measure => show (s.extract 3 s.size).size < s.size; rw [HEZ.out]; omega
            case rel =>
              have := hb1.size
              refine ⟨_, acc ++ [q], x', by rw [HEZ.out]; omega, rfl, hB2, HD.out, by rw [HEZ.out]; simp; omega, ?_, (hb.trans (hb1.mono hB')).trans (hk2.below (by omega) (by rintro j (rfl | h); omega; exact hx j h.symm))⟩
              rcases hw2 with rfl | ⟨g, rfl, hg⟩
              · exact hx
              · intro j e; cases e; omega
          | false =>
            have hd2 := HDEC.out
            rw [H2.out rfl, ← HDR.out] at hd2
            have HD := Lib.hid hd2
            clear HSTEP H1 H2 hd2 HDEC HDR
            go_wp2_with (first | (go_at_call 17; refine (shown_any _ _).mono ?_; rintro e w1 ⟨rfl, rfl⟩) | (go_at_call 18; refine (blank_any _ _).mono ?_; rintro e w1 ⟨rfl, rfl⟩))
            refine (HESC.out _).mono ?_
            rintro e w1 ⟨rfl, hb1⟩
            have hB1 := hB.below hb1
            go_wp2_with fail
            go_roundw
            case measure => show (s.extract 3 s.size).size < s.size; rw [HEZ.out]; omega
            case rel => exact ⟨_, acc, x, by rw [HEZ.out]; omega, rfl, hB1, HD.out, by rw [HEZ.out]; omega, hx, hb.trans (hb1.mono hB')⟩
        · have hd2 := HDEC.out
          rw [HSTEP.out.1 he0] at hd2
          have HD := Lib.hid hd2
          have he1 : (ee != 0) = true := by simpa using he0
          clear HSTEP hd2 HDEC
          go_wp2_with (first | (go_at_call 17; refine (shown_any _ _).mono ?_; rintro e w1 ⟨rfl, rfl⟩) | (go_at_call 18; refine (blank_any _ _).mono ?_; rintro e w1 ⟨rfl, rfl⟩))
          refine (HESC.out _).mono ?_
          rintro e w1 ⟨rfl, hb1⟩
          go_wp2_with fail
          go_ret2
          exact ⟨by rw [← HD.out]; rfl, hb.trans (hb1.mono hB')⟩
    · have hnil : s.data.toList = [] := List.eq_nil_of_length_eq_zero (by show s.data.toList.length = 0; rw [Array.length_toList]; show s.size = 0; omega)
      have e1 := isEmpty_yes s hks
      rw [hnil, decL] at hdec
      have HD := Lib.hid hdec
      clear hdec hnil
      go_wp2_with fail
      refine (bufString_any w.heap.size w.heap.size x acc _ hB (Nat.le_refl _) hx).mono ?_
      rintro e w1 ⟨rfl, hb1⟩
      go_wp2_with fail
      go_ret2
      exact ⟨by rw [← HD.out]; rfl, hb.trans hb1⟩
end Go.Proofs.Ytjcglbopggcmdaa
