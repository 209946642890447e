/- What is sealed. -/
import Derived.Test.YtdebfnlnpfienaaGreatDoorCrc
import Derived.Laws.Strings
namespace Crc
open Go

def bodyOf (s : ByteArray) : List UInt8 := s.data.toList.take (s.size - 2)
def openB (s : ByteArray) : Bool := decide (2 ≤ s.size) && (s.data.toList.drop (s.size - 2) == tail (crc (bodyOf s)))
def openS (s : ByteArray) : ByteArray := if openB s then s.extract 0 (s.size - 2) else ⟨#[]⟩

theorem drop_two (l : List UInt8) (n : Nat) (h : l.length = n + 2) : l.drop n = [l[n], l[n+1]] := by
  rw [List.drop_eq_getElem_cons (by omega), List.drop_eq_getElem_cons (by omega), List.drop_eq_nil_of_le (by omega)]

theorem openB_short (s : ByteArray) (h : s.size < 2) : openB s = false := by
  unfold openB; rw [decide_eq_false (by omega)]; rfl

theorem openB_two (s : ByteArray) (h : 2 ≤ s.size) :
    openB s = (s[s.size - 2] == hi (crc (bodyOf s)) && s[s.size - 2 + 1] == lo (crc (bodyOf s))) := by
  have hl : s.data.toList.length = s.size := by simp
  unfold openB
  rw [decide_eq_true h, drop_two _ (s.size - 2) (by omega)]
  simp only [tail, Bool.true_and, List.cons_beq_cons]
  rw [show (([] : List UInt8) == []) = true from rfl, Bool.and_true]
  rfl

theorem u8_eq {a b : UInt8} (h : (a.toNat : Int) = (b.toNat : Int)) : a = b := UInt8.toNat_inj.1 (by omega)

theorem openB_yes (s : ByteArray) (h : 2 ≤ s.size) (h1 : (s[s.size - 2].toNat : Int) = w16 (crc (bodyOf s)) / 256 % 256)
    (h2 : ((s[s.size - 2 + 1].toNat : Int) != w16 (crc (bodyOf s)) % 256) = false) : openB s = true := by
  rw [openB_two s h, u8_eq (h1.trans (hi_w _)), u8_eq ((bne_eq_false_iff_eq.1 h2).trans (lo_w _))]
  simp
theorem openB_no1 (s : ByteArray) (h : 2 ≤ s.size) (h1 : ¬ (s[s.size - 2].toNat : Int) = w16 (crc (bodyOf s)) / 256 % 256) : openB s = false := by
  rw [openB_two s h]
  rw [hi_w] at h1
  have : (s[s.size - 2] == hi (crc (bodyOf s))) = false := by
    rw [beq_eq_false_iff_ne]; intro h; exact h1 (by rw [h])
  rw [this]; rfl
theorem openB_no2 (s : ByteArray) (h : 2 ≤ s.size) (h1 : ((s[s.size - 2 + 1].toNat : Int) != w16 (crc (bodyOf s)) % 256) = true) : openB s = false := by
  rw [openB_two s h]
  rw [lo_w] at h1
  have : (s[s.size - 2 + 1] == lo (crc (bodyOf s))) = false := by
    rw [beq_eq_false_iff_ne]; intro h; rw [h] at h1; simp at h1
  rw [this, Bool.and_false]

theorem openB_ref (s : ByteArray) (h : 2 ≤ s.size) :
    (!(s.extract 0 (s.size - 2) ++ ⟨(tail (crc (bodyOf s))).toArray⟩ : ByteArray).toList == s.toList) = !openB s := by
  congr 1
  have e : s.toList = bodyOf s ++ s.data.toList.drop (s.size - 2) := by rw [Go.ByteArray.toList_eq]; exact (List.take_append_drop _ _).symm
  have e2 : (s.extract 0 (s.size - 2) ++ ⟨(tail (crc (bodyOf s))).toArray⟩ : ByteArray).toList = bodyOf s ++ tail (crc (bodyOf s)) := by
    rw [Go.ByteArray.toList_eq]
    simp [ByteArray.data_append, bodyOf]
  rw [e2, e]
  unfold openB
  rw [decide_eq_true h, Bool.true_and]
  rw [Bool.eq_iff_iff]
  simp only [beq_iff_eq, List.append_cancel_left_eq]
  exact eq_comm

/-- What is sealed is opened. -/
theorem open_seal (s : ByteArray) : openB (s ++ ⟨(tail (crc s.data.toList)).toArray⟩) = true ∧ openS (s ++ ⟨(tail (crc s.data.toList)).toArray⟩) = s := by
  have hz : (s ++ ⟨(tail (crc s.data.toList)).toArray⟩ : ByteArray).size = s.size + 2 := by rw [ByteArray.size_append]; rfl
  have hd : (s ++ ⟨(tail (crc s.data.toList)).toArray⟩ : ByteArray).data.toList = s.data.toList ++ tail (crc s.data.toList) := by simp [ByteArray.data_append]
  have hb : bodyOf (s ++ ⟨(tail (crc s.data.toList)).toArray⟩) = s.data.toList := by
    unfold bodyOf
    rw [hd, hz]
    simp
  have h1 : openB (s ++ ⟨(tail (crc s.data.toList)).toArray⟩) = true := by
    unfold openB
    rw [hb, hd, hz]
    simp
  refine ⟨h1, ?_⟩
  unfold openS
  rw [h1, hz]
  apply ByteArray.ext
  simp [ByteArray.data_append]
end Crc
