/- Encode, of the program and of the reference: each is encL. -/
import Derived.Test.YtcfbmfcobpfcjaaDoorHex
import Derived.WalkLawsBesides
namespace Go.Proofs.YtcfbmfcobpfcjaaDoor
open Go.RowKit Lift
set_option linter.unusedSimpArgs false
set_option linter.unusedVariables false

def Shown (c : UInt8) : Prop := 33 ≤ c.toNat ∧ c.toNat ≤ 126 ∧ c.toNat ≠ 61
def Blank (c : UInt8) : Prop := c.toNat = 32 ∨ c.toNat = 9
instance (c : UInt8) : Decidable (Shown c) := by unfold Shown; infer_instance
instance (c : UInt8) : Decidable (Blank c) := by unfold Blank; infer_instance

def encOne (c : UInt8) (r : List UInt8) : List UInt8 := if Shown c ∨ Blank c ∧ r ≠ [] then [c] else 61 :: hexOf c
def encL : List UInt8 → List UInt8
  | [] => []
  | c :: r => encOne c r ++ encL r

theorem encOne_le (c : UInt8) (r : List UInt8) : (encOne c r).length ≤ 3 := by unfold encOne; split <;> simp [hexOf]
theorem encL_le (l : List UInt8) : (encL l).length ≤ 3 * l.length := by
  induction l with
  | nil => simp [encL]
  | cons c r ih => have := encOne_le c r; simp [encL]; omega

theorem drop_at (s : ByteArray) (k : Nat) (h : k < s.size) : s.data.toList.drop k = s.data.toList.getD k 0 :: s.data.toList.drop (k + 1) := by
  rw [List.drop_eq_getElem_cons (by simpa using h)]
  simp [List.getD_eq_getElem?_getD, h]
theorem drop_nil (s : ByteArray) (k : Nat) : s.data.toList.drop k = [] ↔ s.size ≤ k := by simp
theorem extract_one (s : ByteArray) (k : Nat) (h : k < s.size) : (s.extract k (k + 1)).data.toList = [s.data.toList.getD k 0] := by
  have := drop_at s k h
  simp only [ByteArray.data_extract, Array.toList_extract, List.extract_eq_take_drop]
  rw [this]; simp

/-- One step of the encoding, told of the place. -/
theorem enc_step {s : ByteArray} {k : Nat} {acc : List UInt8} (h : k < s.size) (ha : acc ++ encL (s.data.toList.drop k) = encL s.data.toList) :
    acc ++ encOne (s.data.toList.getD k 0) (s.data.toList.drop (k + 1)) ++ encL (s.data.toList.drop (k + 1)) = encL s.data.toList := by
  rw [← ha, drop_at s k h, encL, List.append_assoc]
theorem encOne_yes {s : ByteArray} {k : Nat} (h : Shown (s.data.toList.getD k 0) ∨ Blank (s.data.toList.getD k 0) ∧ k + 1 < s.size) : encOne (s.data.toList.getD k 0) (s.data.toList.drop (k + 1)) = [s.data.toList.getD k 0] := by
  unfold encOne
  rw [if_pos]
  rcases h with h | ⟨h, h2⟩
  · exact .inl h
  · exact .inr ⟨h, by rw [ne_eq, drop_nil]; omega⟩
theorem encOne_no {s : ByteArray} {k : Nat} (h : ¬ (Shown (s.data.toList.getD k 0) ∨ Blank (s.data.toList.getD k 0) ∧ k + 1 < s.size)) : encOne (s.data.toList.getD k 0) (s.data.toList.drop (k + 1)) = 61 :: hexOf (s.data.toList.getD k 0) := by
  unfold encOne
  rw [if_neg]
  intro h2
  apply h
  rcases h2 with h2 | ⟨h2, h3⟩
  · exact .inl h2
  · exact .inr ⟨h2, by rw [ne_eq, drop_nil] at h3; omega⟩

def shownN (n : Nat) : Bool := decide (33 ≤ n ∧ n ≤ 126 ∧ n ≠ 61)
def blankN (n : Nat) : Bool := decide (n = 32 ∨ n = 9)
theorem shownN_eq (c : UInt8) : shownN c.toNat = decide (Shown c) := by unfold shownN Shown; congr
theorem blankN_eq (c : UInt8) : blankN c.toNat = decide (Blank c) := by unfold blankN Blank; congr
set_option maxHeartbeats 1000000 in
set_option maxRecDepth 100000 in
theorem shown_nat (n : Nat) (w : World) : Calls Tryd.prog 66 #[.int .u8 n] w (BoolPost (shownN n) w) := by
  go_enter Tryd.func66, Tryd.ntmps66
  go_wp2
  all_goals
    go_ret
    exact ⟨ret_dec (by simp at *; omega), rfl⟩
theorem shown_any (c : UInt8) (w : World) : Calls Tryd.prog 66 #[.int .u8 c.toNat] w (BoolPost (decide (Shown c)) w) :=
  shownN_eq c ▸ shown_nat _ w
set_option maxHeartbeats 1000000 in
set_option maxRecDepth 100000 in
theorem blank_nat (n : Nat) (w : World) : Calls Tryd.prog 67 #[.int .u8 n] w (BoolPost (blankN n) w) := by
  go_enter Tryd.func67, Tryd.ntmps67
  go_wp2
  all_goals
    go_ret
    exact ⟨ret_dec (by simp at *; omega), rfl⟩
theorem blank_any (c : UInt8) (w : World) : Calls Tryd.prog 67 #[.int .u8 c.toNat] w (BoolPost (decide (Blank c)) w) :=
  blankN_eq c ▸ blank_nat _ w

theorem ext_size (s : ByteArray) (k : Nat) (h : k < s.size) : (s.extract k (k + 1)).size = 1 := by simp; omega

set_option maxHeartbeats 1000000 in
set_option maxRecDepth 100000 in
theorem qenc_any (s : ByteArray) (w : World) (hs : s.size ≤ 1000000) :
    Calls Tryd.prog 42 #[.string s] w (StrPost (encL s.data.toList) w) := by
  go_enter Tryd.func42, Tryd.ntmps42
  go_wp2_with fail
  have hB0 := Buf.fresh w
  have hbw0 : Below w.heap.size w (w.alloc (.cells #[.pointer none, .slice none 0 0] 50)) := (Below.refl _ w).alloc (Nat.le_refl _) _
  obtain ⟨W, cap, hcv, hby, hbw, hbz⟩ := conv_bytes (P := Tryd.prog) (w.alloc (.cells #[.pointer none, .slice none 0 0] 50)) 9 48 5 s (u := .string) Tryd.underlying9 Tryd.underlying48 Tryd.underlying5
  have hB := hB0.below hbw
  simp only [World.size_alloc] at hcv hby hbz
  have hbW := hbw0.trans (hbw.mono (by simp))
  rw [hcv]
  clear hcv hB0 hbw hbw0
  simp only [Result.andThen]
  rw [Oper.upon_value]
  have HB := Lib.hid hB; have HBY := Lib.hid hby; have HBZ := Lib.hid hbz
  clear hB hby hbz
  go_wp2_with fail
  go_loopw [9] (fun v9 wr => ∃ (k : Nat) (acc : List UInt8) (x : Option Nat), k ≤ s.size ∧ v9 = .int .i64 k ∧ Buf w.heap.size x acc wr ∧ acc ++ encL (s.data.toList.drop k) = encL s.data.toList ∧ acc.length ≤ 3 * k ∧ Bytes wr (w.heap.size + 1) s.data.toList ∧ x ≠ some (w.heap.size + 1) ∧ (∀ j, x = some j → w.heap.size ≤ j) ∧ w.heap.size + 1 < wr.heap.size ∧ Below w.heap.size w wr) (fun v9 _ => s.size - (intOf v9).toNat)
  case atStart => exact ⟨0, [], none, Nat.zero_le _, rfl, HB.out, by simp, by simp, HBY.out, by simp, by simp, by rw [HBZ.out]; omega, hbW⟩
  case round =>
    obtain ⟨k, acc, x, hk, rfl, hB, hacc, hal, hby, hx1, hx2, hlt, hb⟩ := hrel
    by_cases hks : k < s.size
    · obtain ⟨c, hcd⟩ : ∃ c, s.data.toList.getD k 0 = c := ⟨_, rfl⟩
      have hck := hby.cell k (by simpa using hks)
      rw [hcd] at hck
      have hst := enc_step hks hacc
      have hB' : w.heap.size ≤ wr.heap.size := hb.size
      by_cases hc : Shown c ∨ Blank c ∧ k + 1 < s.size
      · rw [encOne_yes (by rw [hcd]; exact hc), hcd] at hst
        have HST := Lib.hid hst; have HACC := Lib.hid hacc; have HX := Lib.hid hx1
        clear hst hacc hcd hx1
        have h2 : decide (Shown c) = true ∨ (decide (Shown c) = false ∧ decide (Blank c) = true ∧ (k:Int) + 1 < (s.size : Int)) := by
          by_cases h : Shown c
          · exact .inl (by simpa using h)
          · exact .inr ⟨by simpa using h, by simpa using (hc.resolve_left h).1, by have := (hc.resolve_left h).2; omega⟩
        clear hc
        rcases h2 with h2 | ⟨h2, h3, h4⟩
        all_goals
          go_wp2_with (first | (go_at_call 66; refine (shown_any _ _).mono ?_; rintro e w1 ⟨rfl, rfl⟩) | (go_at_call 67; refine (blank_any _ _).mono ?_; rintro e w1 ⟨rfl, rfl⟩))
          refine (writeByte_any w.heap.size x acc c _ hB (by omega)).mono ?_
          rintro e w1 ⟨rfl, x', hB1, hk1, hw1⟩
          go_wp2_with fail
          go_roundw
          case measure => simp [intOf]; omega
          case rel =>
            refine ⟨k + 1, acc ++ [c], x', by omega, by go_num, hB1, HST.out, by simp; omega, hby.kept hk1 (by omega) (by rintro (h | h); omega; exact HX.out h.symm), ?_, ?_, by have := hk1.size; omega, hb.trans (hk1.below hB' (by rintro j (rfl | h); omega; exact hx2 j h.symm))⟩
            · rcases hw1 with rfl | ⟨g, rfl, hg⟩
              · exact HX.out
              · intro e; cases e; omega
            · rcases hw1 with rfl | ⟨g, rfl, hg⟩
              · exact hx2
              · intro j e; cases e; omega
      · rw [encOne_no (by rw [hcd]; exact hc), hcd] at hst
        have hex := extract_one s k hks
        rw [hcd] at hex
        have HEX := Lib.hid hex; have HST := Lib.hid hst; have HACC := Lib.hid hacc; have HX := Lib.hid hx1
        clear hst hacc hcd hx1 hex
        have h2 : decide (Shown c) = false := by simpa using fun h => hc (.inl h)
        have h3 : decide (Blank c) = false ∨ (decide (Blank c) = true ∧ decide ((k:Int) + 1 < (s.size : Int)) = false) := by
          by_cases h : Blank c
          · exact .inr ⟨by simpa using h, by have : ¬ k + 1 < s.size := fun h2 => hc (.inr ⟨h, h2⟩); simp; omega⟩
          · exact .inl (by simpa using h)
        have hsl0 : (0:Int) ≤ (k:Int) + 1 := by omega
        have hsl1 : (k:Int) + 1 ≤ (s.size : Int) := by omega
        clear hc
        rcases h3 with h3 | ⟨h3, h4⟩
        all_goals
          go_wp2_with (first | (go_at_call 66; refine (shown_any _ _).mono ?_; rintro e w1 ⟨rfl, rfl⟩) | (go_at_call 67; refine (blank_any _ _).mono ?_; rintro e w1 ⟨rfl, rfl⟩))
          refine (writeByte_any w.heap.size x acc 61 _ hB (by omega)).mono ?_
          rintro e w1 ⟨rfl, x1, hB1, hk1, hw1⟩
          go_wp2_with fail
          refine (hex_any _ _ (by rw [ext_size s k hks]; decide)).mono ?_
          rintro e w2 ⟨rfl, hb2⟩
          rw [HEX.out]
          have hB2 := hB1.below hb2
          go_wp2_with fail
          refine (writeString_any w.heap.size x1 _ _ _ hB2 (by rw [show (⟨(hexL [c]).toArray⟩ : ByteArray).size = 2 from rfl]; simp; omega)).mono ?_
          rintro e w3 ⟨rfl, x3, hB3, hk3, hw3⟩
          go_wp2_with fail
          go_roundw
          case measure => simp [intOf]; omega
          case rel =>
            have hx1 : x1 ≠ some (w.heap.size + 1) ∧ ∀ j, x1 = some j → w.heap.size ≤ j := by
              rcases hw1 with rfl | ⟨g, rfl, hg⟩
              · exact ⟨HX.out, hx2⟩
              · exact ⟨by intro e; cases e; omega, by intro j e; cases e; omega⟩
            have hs1 := hk1.size; have hs2 := hb2.size; have hs3 := hk3.size
            refine ⟨k + 1, acc ++ [61] ++ hexL [c], x3, by omega, by go_num, hB3, ?_, by simp [hexL, hexOf]; omega, ?_, ?_, ?_, by omega, ?_⟩
            · rw [← HST.out]; simp [hexL]
            · exact (((hby.kept hk1 (by omega) (by rintro (h | h); omega; exact HX.out h.symm)).keep hb2 (by omega))).kept hk3 (by omega) (by rintro (h | h); omega; exact hx1.1 h.symm)
            · rcases hw3 with rfl | ⟨g, rfl, hg⟩
              · exact hx1.1
              · intro e; cases e; omega
            · rcases hw3 with rfl | ⟨g, rfl, hg⟩
              · exact hx1.2
              · intro j e; cases e; omega
            · exact (hb.trans (hk1.below hB' (by rintro j (rfl | h); omega; exact hx2 j h.symm))).trans ((hb2.mono (by omega)).trans (hk3.below (by omega) (by rintro j (rfl | h); omega; exact hx1.2 j h.symm)))
    · obtain rfl : k = s.size := by omega
      rw [List.drop_of_length_le (by simp)] at hacc
      simp only [encL, List.append_nil] at hacc
      have HACC := Lib.hid hacc
      clear hacc
      go_wp2_with fail
      refine (bufString_any w.heap.size w.heap.size x acc _ hB (Nat.le_refl _) hx2).mono ?_
      rintro e w1 ⟨rfl, hb1⟩
      go_wp2_with fail
      go_ret
      exact ⟨by rw [HACC.out]; rfl, hb.trans hb1⟩
end Go.Proofs.YtcfbmfcobpfcjaaDoor
