/- Whether a text is right: the program's (utf8.ValidString) and the document's; they agree. -/
import Derived.Test.YtcfbmfcobpfcjaaDoorVcOne
import Derived.Test.YtcfbmfcobpfcjaaDoorShelf
import Derived.Lib.ValidU
namespace Go.Proofs.YtcfbmfcobpfcjaaDoor
open Go.RowKit Lift
set_option linter.unusedSimpArgs false
set_option linter.unusedVariables false

def isValid (s : ByteArray) : Bool := Lib.validD s.data.toList
theorem cvalid_any (s : ByteArray) (hs : s.size ≤ maxTx) (w : World) (hT : Lib.Utf8Tabs 0 1 w) : Calls Tryd.prog 38 #[.string s] w (BelowPost (.bool (isValid s)) w) := by
  have HV := Lib.hid (Any.utf8_ValidString Tryd.laysValid s w (Nat.le_trans hs (by unfold maxTx; omega)) hT)
  go_enter Tryd.func38, Tryd.ntmps38
  go_wp2_with fail
  refine HV.out.mono ?_
  rintro e w2 ⟨rfl, hb⟩
  go_wp2_with fail
  go_ret
  exact ⟨rfl, hb⟩
/-! ### One letter -/
theorem get_bN (s : ByteArray) (i : Nat) : (s.get! i).toNat = bN s i := by
  unfold bN
  cases s with
  | mk d =>
    show (d[i]!).toNat = _
    by_cases h : i < d.size
    · rw [getElem!_pos d i h, List.getD_eq_getElem?_getD, List.getElem?_eq_getElem (by simpa using h)]; simp
    · rw [getElem!_neg d i h, List.getD_eq_getElem?_getD, List.getElem?_eq_none (by simpa using h)]; rfl
theorem decode_wid (s : ByteArray) (h : s.size ≠ 0) : ((Utf8.decode s 0).1 = 65533 ∧ (Utf8.decode s 0).2 = 1 → widR s = 0) ∧ (¬ ((Utf8.decode s 0).1 = 65533 ∧ (Utf8.decode s 0).2 = 1) → widR s = (Utf8.decode s 0).2 ∧ widR s ≠ 0) := by
  have l0 : bN s 0 < 256 := UInt8.toNat_lt _
  have l1 : bN s 1 < 256 := UInt8.toNat_lt _
  have l2 : bN s 2 < 256 := UInt8.toNat_lt _
  have l3 : bN s 3 < 256 := UInt8.toNat_lt _
  unfold widR widN Utf8.decode
  rw [if_neg h]
  simp only [get_bN, Nat.zero_add, Utf8.valid, Utf8.runeError]
  generalize bN s 0 = b0 at *
  generalize bN s 1 = b1 at *
  generalize bN s 2 = b2 at *
  generalize bN s 3 = b3 at *
  generalize s.size = n at *
  simp only [Bool.and_eq_true, decide_eq_true_eq, beq_iff_eq, Bool.or_eq_true, ge_iff_le]
  repeat' split
  all_goals (simp_all <;> omega)
/-! ### Many letters -/
theorem vgo_fuel : ∀ (n m : Nat) (l : List UInt8), l.length ≤ n → l.length ≤ m → Lib.validGoD n l = Lib.validGoD m l
  | 0, m, l, h1, h2 => by
    have : l = [] := List.length_eq_zero_iff.1 (by omega)
    subst this
    cases m <;> simp [Lib.validGoD]
  | n + 1, 0, l, h1, h2 => by
    have : l = [] := List.length_eq_zero_iff.1 (by omega)
    subst this
    simp [Lib.validGoD]
  | n + 1, m + 1, l, h1, h2 => by
    by_cases hl : l = []
    · subst hl; simp [Lib.validGoD]
    · have hpos : 0 < l.length := List.length_pos_iff.2 hl
      simp only [Lib.validGoD, if_neg hl]
      split
      · rfl
      · rename_i hd
        have hs : (⟨l.toArray⟩ : ByteArray).size ≠ 0 := by show l.toArray.size ≠ 0; simp; omega
        have := (decode_wid ⟨l.toArray⟩ hs).2 hd
        have hw : 1 ≤ (Lib.decodeL l).2 := by show 1 ≤ (Utf8.decode ⟨l.toArray⟩ 0).2; omega
        exact vgo_fuel n m _ (by rw [List.length_drop]; omega) (by rw [List.length_drop]; omega)
theorem isValid_nil (s : ByteArray) (h : s.size = 0) : isValid s = true := by
  have : s.data.toList = [] := List.length_eq_zero_iff.1 (by simpa using h)
  unfold isValid Lib.validD; rw [this]; rfl
theorem isValid_step (s : ByteArray) (h : s.size ≠ 0) : isValid s = if widR s = 0 then false else isValid (s.extract (widR s) s.size) := by
  have hl : s.data.toList.length = s.size := by simp
  have hne : s.data.toList ≠ [] := fun e => h (by rw [← hl, e]; rfl)
  obtain ⟨d1, d2⟩ := decode_wid s h
  obtain ⟨k, hk⟩ : ∃ k, s.size = k + 1 := ⟨s.size - 1, by omega⟩
  have e0 : Lib.decodeL s.data.toList = Utf8.decode s 0 := rfl
  have e1 : isValid s = if (Utf8.decode s 0).1 = 65533 ∧ (Utf8.decode s 0).2 = 1 then false else Lib.validGoD k (s.data.toList.drop (Utf8.decode s 0).2) := by
    unfold isValid Lib.validD
    rw [hl, hk, Lib.validGoD, if_neg hne, e0]
  rw [e1]
  by_cases hd : (Utf8.decode s 0).1 = 65533 ∧ (Utf8.decode s 0).2 = 1
  · rw [if_pos hd, if_pos (d1 hd)]
  · obtain ⟨g1, g2⟩ := d2 hd
    rw [if_neg hd, if_neg g2, ← g1]
    have hx : (s.extract (widR s) s.size).data.toList = s.data.toList.drop (widR s) := by
      rw [ByteArray.data_extract]
      simp only [Array.toList_extract, List.extract_eq_take_drop]
      exact List.take_of_length_le (by simp)
    unfold isValid Lib.validD
    rw [hx]
    exact vgo_fuel _ _ _ (by rw [List.length_drop]; omega) (Nat.le_refl _)
end Go.Proofs.YtcfbmfcobpfcjaaDoor
