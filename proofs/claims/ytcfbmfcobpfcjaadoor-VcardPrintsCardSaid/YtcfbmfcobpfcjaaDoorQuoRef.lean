/- Encode of the reference is encL. -/
import Derived.Test.YtcfbmfcobpfcjaaDoorQuo
namespace Go.Proofs.YtcfbmfcobpfcjaaDoor
open Go.RowKit Lift
set_option linter.unusedSimpArgs false
set_option linter.unusedVariables false

def plainN (n : Nat) (b : Bool) : Bool := shownN n || (blankN n && b)
set_option maxHeartbeats 1000000 in
set_option maxRecDepth 100000 in
theorem qplain_ref (s : ByteArray) (hs : s.size ≤ 1000000) (k : Nat) (h : k < s.size) (n : Nat) (hn : s[k].toNat = n) (w : World) : Calls Tryd.prog 50 #[.string s, .int .i64 k] w (BoolPost (plainN n (decide (k + 1 < s.size))) w) := by
  by_cases h2 : (k:Int) + 1 < (s.size : Int)
  all_goals
    have h3 : decide (k + 1 < s.size) = decide ((k:Int) + 1 < (s.size:Int)) := by congr 1; apply propext; omega
    rw [h3]
    have H3 := Lib.hid h3
    clear h3
    go_enter Tryd.func50, Tryd.ntmps50
    go_wp2
    all_goals
      go_ret
      exact ⟨ret_bool (by unfold plainN shownN blankN; rw [Bool.eq_iff_iff]; simp at *; omega), rfl⟩

theorem getD_at (s : ByteArray) (k : Nat) (h : k < s.size) : s.data.toList.getD k 0 = s[k] := by
  simp [List.getD_eq_getElem?_getD, h]; rfl
theorem plainN_yes {s : ByteArray} {k : Nat} {c : UInt8} (h : plainN c.toNat (decide (k + 1 < s.size)) = true) : Shown c ∨ Blank c ∧ k + 1 < s.size := by
  simpa [plainN, shownN, blankN, Shown, Blank] using h
theorem plainN_no {s : ByteArray} {k : Nat} {c : UInt8} (h : plainN c.toNat (decide (k + 1 < s.size)) = false) : ¬ (Shown c ∨ Blank c ∧ k + 1 < s.size) := by
  intro h2
  have : plainN c.toNat (decide (k + 1 < s.size)) = true := by simpa [plainN, shownN, blankN, Shown, Blank] using h2
  rw [h] at this; cases this

set_option maxHeartbeats 1000000 in
set_option maxRecDepth 100000 in
theorem qenc_ref (s : ByteArray) (w : World) (hs : s.size ≤ 1000000) :
    Calls Tryd.prog 27 #[.string s] w (StrPost (encL s.data.toList) w) := by
  go_enter Tryd.func27, Tryd.ntmps27
  go_wp2_with fail
  go_loopw [3, 4] (fun v3 v4 wr => ∃ (k : Nat) (t : ByteArray), k ≤ s.size ∧ v4 = .int .i64 k ∧ v3 = .string t ∧ t.data.toList ++ encL (s.data.toList.drop k) = encL s.data.toList ∧ t.size ≤ 3 * k ∧ Below w.heap.size w wr) (fun _ v4 _ => s.size - (intOf v4).toNat)
  case atStart => exact ⟨0, ⟨#[]⟩, Nat.zero_le _, rfl, rfl, by simp, by simp [ByteArray.size], Below.refl _ _⟩
  case round =>
    obtain ⟨k, t, hk, rfl, rfl, hacc, hal, hb⟩ := hrel
    by_cases hks : k < s.size
    · have hst := enc_step hks hacc
      rw [getD_at s k hks] at hst
      have hex := extract_one s k hks
      rw [getD_at s k hks] at hex
      have hsl1 : (k:Int) + 1 ≤ (s.size : Int) := by omega
      have hez : (s.extract k (k + 1)).size = 1 := by simp; omega
      have HEX := Lib.hid hex; have HACC := Lib.hid hacc; have HEZ := Lib.hid hez
      cases hp : plainN s[k].toNat (decide (k + 1 < s.size)) with
      | true =>
        have h1 := encOne_yes (by rw [getD_at s k hks]; exact plainN_yes hp)
        rw [getD_at s k hks] at h1
        rw [h1] at hst
        have HST := Lib.hid hst; have HP := Lib.hid hp
        clear hst hacc hex hez h1 hp
        go_wp2_with fail
        refine (qplain_ref s hs k hks _ rfl _).mono ?_
        rintro e w1 ⟨rfl, rfl⟩
        rw [HP.out]
        go_wp2_with fail
        all_goals
          go_roundw
          case measure => simp [intOf]; omega
          case rel => exact ⟨k + 1, _, by omega, by go_num, rfl, by rw [ByteArray.data_append, Array.toList_append, HEX.out]; exact HST.out, by rw [ByteArray.size_append, HEZ.out]; omega, hb⟩
      | false =>
        have h1 := encOne_no (by rw [getD_at s k hks]; exact plainN_no hp)
        rw [getD_at s k hks] at h1
        rw [h1] at hst
        have HST := Lib.hid hst; have HP := Lib.hid hp
        clear hst hacc hex hez h1 hp
        go_wp2_with fail
        refine (qplain_ref s hs k hks _ rfl _).mono ?_
        rintro e w1 ⟨rfl, rfl⟩
        rw [HP.out]
        go_wp2_with fail
        refine (hex_ref _ _ (by rw [HEZ.out]; decide)).mono ?_
        rintro e w1 ⟨rfl, hb1⟩
        rw [HEX.out]
        have hsz2 : (⟨(hexL [s[k]]).toArray⟩ : ByteArray).size = 2 := rfl
        go_wp2_with fail
        all_goals
          go_roundw
          case measure => simp [intOf]; omega
          case rel => exact ⟨k + 1, _, by omega, by go_num, rfl, by rw [← HST.out]; simp [ByteArray.data_append, hexL], by rw [ByteArray.size_append, ByteArray.size_append, hsz2, show (⟨#[61]⟩ : ByteArray).size = 1 from rfl]; omega, hb.trans (hb1.mono hb.size)⟩
    · obtain rfl : k = s.size := by omega
      rw [List.drop_of_length_le (by simp)] at hacc
      simp only [encL, List.append_nil] at hacc
      have HACC := Lib.hid hacc
      clear hacc
      go_wp2_with fail
      go_ret
      exact ⟨ret_string (by rw [← HACC.out]), hb⟩
end Go.Proofs.YtcfbmfcobpfcjaaDoor
