/- A line of a property: letters as capitals, where a byte is, a text cut at a byte. -/
import Derived.Test.YtioeobkneikgfaaPrPrint
import Derived.Test.YtioeobkneikgfaaCut1
namespace Go.Proofs.Ytioeobkneikgfaa
open Go.RowKit Lift
set_option linter.unusedSimpArgs false
set_option linter.unusedVariables false

def upB (c : UInt8) : UInt8 := if 97 ≤ c.toNat ∧ c.toNat ≤ 122 then UInt8.ofNat (c.toNat - 32) else c
def upS (s : ByteArray) : ByteArray := ⟨(s.data.toList.map upB).toArray⟩
def upTo (k : Nat) (l : List UInt8) : List UInt8 := (l.take k).map upB ++ l.drop k
theorem upTo_zero (l : List UInt8) : upTo 0 l = l := by simp [upTo]
theorem upTo_all (l : List UInt8) : upTo l.length l = l.map upB := by simp [upTo]
theorem upTo_len (k : Nat) (l : List UInt8) (h : k ≤ l.length) : (upTo k l).length = l.length := by simp [upTo]; omega
theorem upTo_at {k : Nat} {l : List UInt8} {c : UInt8} (h : l[k]? = some c) : (upTo k l).getD k 0 = c := by
  have hk := (List.getElem?_eq_some_iff.1 h).1
  unfold upTo
  rw [List.getD_eq_getElem?_getD, List.getElem?_append_right (by simp; omega)]
  simp only [List.length_map, List.length_take, List.getElem?_drop]
  rw [show k + (k - min k l.length) = k by omega, h]; rfl
theorem upTo_set {k : Nat} {l : List UInt8} {c : UInt8} (h : l[k]? = some c) : (upTo k l).set k (upB c) = upTo (k + 1) l := by
  have hk := (List.getElem?_eq_some_iff.1 h).1
  unfold upTo
  rw [List.set_append_right k (upB c) (by simp; omega), drop_at2 h, take_at2 h]
  simp only [List.length_map, List.length_take, show k - min k l.length = 0 by omega, List.set_cons_zero, List.map_append, List.map_cons, List.map_nil, List.append_assoc, List.singleton_append]
theorem upTo_same {k : Nat} {l : List UInt8} {c : UInt8} (h : l[k]? = some c) (hc : upB c = c) : upTo k l = upTo (k + 1) l := by
  rw [← upTo_set h, hc]
  apply List.ext_getElem?
  intro i
  rw [List.getElem?_set]
  split
  · rename_i hi
    subst hi
    have hk := (List.getElem?_eq_some_iff.1 h).1
    have := upTo_at h
    rw [List.getD_eq_getElem?_getD] at this
    have hlt : k < (upTo k l).length := by rw [upTo_len k l (by omega)]; exact hk
    rw [List.getElem?_eq_getElem hlt] at this ⊢
    simp only [Option.getD_some] at this
    rw [this, if_pos hlt]
  · rfl
theorem upB_in {c : UInt8} (h1 : 97 ≤ c.toNat) (h2 : c.toNat ≤ 122) : ((upB c).toNat : Int) = (c.toNat : Int) - 32 := by
  unfold upB
  rw [if_pos ⟨h1, h2⟩, UInt8.toNat_ofNat']
  omega
theorem upB_out {c : UInt8} (h : ¬ (97 ≤ c.toNat ∧ c.toNat ≤ 122)) : upB c = c := by unfold upB; rw [if_neg h]

def StrPost (s : ByteArray) (w : World) (e : Ending) (w' : World) : Prop := e = .returned (.string s) ∧ Below w.heap.size w w'

set_option maxHeartbeats 1000000 in
set_option maxRecDepth 100000 in
theorem capitals_any (s : ByteArray) (w : World) (hs : s.size ≤ 100000) : Calls Try.prog 42 #[.string s] w (StrPost (upS s) w) := by
  obtain ⟨W, cap, hcv, hby, hbw, hbz⟩ := conv_bytes (P := Try.prog) w 9 48 5 s (u := .string) Try.underlying9 Try.underlying48 Try.underlying5
  have hl : s.data.toList.length = s.size := by simp
  have hbase : w.heap.size ≤ W.heap.size := by omega
  go_enter Try.func42, Try.ntmps42
  go_wp2_with fail
  go_loopw [10] (fun v10 wr => ∃ k : Nat, k ≤ s.size ∧ v10 = .int .i64 k ∧ Bytes wr w.heap.size (upTo k s.data.toList) ∧ Below w.heap.size w wr ∧ wr.heap.size = W.heap.size) (fun v10 _ => s.size - (intOf v10).toNat)
  case atStart => exact ⟨0, by omega, rfl, by rw [upTo_zero]; exact hby, hbw, rfl⟩
  case round =>
    clear hby hbw hcv
    obtain ⟨k, hk, rfl, hB, hb, hz⟩ := hrel
    by_cases hkl : k < s.size
    · have hk2 : (k : Int) < (s.size : Int) := by omega
      obtain ⟨y, hy⟩ : ∃ y, s[k]'hkl = y := ⟨_, rfl⟩
      have hyn := y.toNat_lt
      have hyl : s.data.toList[k]? = some y := by rw [← hy]; exact Lib.data_getElem? s k hkl
      have x0 : wr.cell? ⟨w.heap.size, k, none⟩ = some (.int .u8 y.toNat) := by
        have := hB.cell k (by rw [upTo_len k _ (by omega)]; omega)
        rw [upTo_at hyl] at this
        exact this
      have f0 := hB.free k (by rw [upTo_len k _ (by omega)]; omega)
      have hlim : k ≤ 100000 := by omega
      by_cases hc : 97 ≤ y.toNat ∧ y.toNat ≤ 122
      · have hc1 : (97 : Int) ≤ (y.toNat : Int) := by omega
        have hc2 : (y.toNat : Int) ≤ 122 := by omega
        have HS := Lib.hid (hB.set k (upB y) ((y.toNat : Int) - 32) (by rw [upB_in hc.1 hc.2]))
        rw [upTo_set hyl] at HS
        have HB2 := Lib.hid (show Below w.heap.size w (wr.setCell ⟨w.heap.size, k, none⟩ (.int .u8 ((y.toNat : Int) - 32))) from hb.trans ((Kept.setCell (X := (· = w.heap.size)) wr (p := ⟨w.heap.size, k, none⟩) rfl _).below (by omega) (fun k hk => by omega)))
        have e1 : ((y.toNat : Int) - 97 + 65) = (y.toNat : Int) - 32 := by omega
        clear hyl hy hB hb
        go_wp2_with fail
        go_roundw
        case measure => simp [intOf]; omega
        case rel => exact ⟨k + 1, by omega, by go_num, HS.out, HB2.out, by simpa using hz⟩
      · have HS := Lib.hid (upTo_same hyl (upB_out hc))
        rw [HS.out] at hB
        clear hyl hy HS
        by_cases hc1 : 97 ≤ y.toNat
        · have hc2 : (97 : Int) ≤ (y.toNat : Int) := by omega
          have hc3 : ¬ (y.toNat : Int) ≤ 122 := by omega
          go_wp2_with fail
          go_roundw
          case measure => simp [intOf]; omega
          case rel => exact ⟨k + 1, by omega, by go_num, hB, hb, hz⟩
        · have hc2 : ¬ (97 : Int) ≤ (y.toNat : Int) := by omega
          go_wp2_with fail
          go_roundw
          case measure => simp [intOf]; omega
          case rel => exact ⟨k + 1, by omega, by go_num, hB, hb, hz⟩
    · obtain rfl : k = s.size := by omega
      rw [← hl, upTo_all] at hB
      have hst := hB.string (P := Try.prog) 48 9 5 cap s.size (by simp) Try.underlying48 Try.underlying5 Try.underlying9
      obtain ⟨u, hu⟩ : ∃ u : ByteArray, upS s = u := ⟨_, rfl⟩
      rw [show (⟨(s.data.toList.map upB).toArray⟩ : ByteArray) = u from hu] at hst
      have HU := Lib.hid hu
      clear hB hu
      go_wp2_with fail
      go_ret
      exact ⟨by rw [HU.out]; rfl, hb⟩
set_option maxHeartbeats 1000000 in
set_option maxRecDepth 100000 in
theorem upper_ref (s : ByteArray) (w : World) (hs : s.size ≤ 100000) : Calls Try.prog 46 #[.string s] w (StrPost (upS s) w) := by
  obtain ⟨W, cap, hcv, hby, hbw, hbz⟩ := conv_bytes (P := Try.prog) w 9 48 5 s (u := .string) Try.underlying9 Try.underlying48 Try.underlying5
  have hl : s.data.toList.length = s.size := by simp
  have hbase : w.heap.size ≤ W.heap.size := by omega
  go_enter Try.func46, Try.ntmps46
  go_wp2_with fail
  go_loopw [4] (fun v4 wr => ∃ k : Nat, k ≤ s.size ∧ v4 = .int .i64 k ∧ Bytes wr w.heap.size (upTo k s.data.toList) ∧ Below w.heap.size w wr ∧ wr.heap.size = W.heap.size) (fun v4 _ => s.size - (intOf v4).toNat)
  case atStart => exact ⟨0, by omega, rfl, by rw [upTo_zero]; exact hby, hbw, rfl⟩
  case round =>
    clear hby hbw hcv
    obtain ⟨k, hk, rfl, hB, hb, hz⟩ := hrel
    by_cases hkl : k < s.size
    · have hk2 : (k : Int) < (s.size : Int) := by omega
      obtain ⟨y, hy⟩ : ∃ y, s[k]'hkl = y := ⟨_, rfl⟩
      have hyn := y.toNat_lt
      have hyl : s.data.toList[k]? = some y := by rw [← hy]; exact Lib.data_getElem? s k hkl
      have x0 : wr.cell? ⟨w.heap.size, k, none⟩ = some (.int .u8 y.toNat) := by
        have := hB.cell k (by rw [upTo_len k _ (by omega)]; omega)
        rw [upTo_at hyl] at this
        exact this
      have f0 := hB.free k (by rw [upTo_len k _ (by omega)]; omega)
      have hlim : k ≤ 100000 := by omega
      by_cases hc : 97 ≤ y.toNat ∧ y.toNat ≤ 122
      · have hc1 : (97 : Int) ≤ (y.toNat : Int) := by omega
        have hc2 : (y.toNat : Int) ≤ 122 := by omega
        have HS := Lib.hid (hB.set k (upB y) ((y.toNat : Int) - 32) (by rw [upB_in hc.1 hc.2]))
        rw [upTo_set hyl] at HS
        have HB2 := Lib.hid (show Below w.heap.size w (wr.setCell ⟨w.heap.size, k, none⟩ (.int .u8 ((y.toNat : Int) - 32))) from hb.trans ((Kept.setCell (X := (· = w.heap.size)) wr (p := ⟨w.heap.size, k, none⟩) rfl _).below (by omega) (fun k hk => by omega)))
        have e1 : (y.toNat : Int) - 32 = (y.toNat : Int) - 32 := rfl
        clear hyl hy hB hb
        go_wp2_with fail
        go_roundw
        case measure => simp [intOf]; omega
        case rel => exact ⟨k + 1, by omega, by go_num, HS.out, HB2.out, by simpa using hz⟩
      · have HS := Lib.hid (upTo_same hyl (upB_out hc))
        rw [HS.out] at hB
        clear hyl hy HS
        by_cases hc1 : 97 ≤ y.toNat
        · have hc2 : (97 : Int) ≤ (y.toNat : Int) := by omega
          have hc3 : ¬ (y.toNat : Int) ≤ 122 := by omega
          go_wp2_with fail
          go_roundw
          case measure => simp [intOf]; omega
          case rel => exact ⟨k + 1, by omega, by go_num, hB, hb, hz⟩
        · have hc2 : ¬ (97 : Int) ≤ (y.toNat : Int) := by omega
          go_wp2_with fail
          go_roundw
          case measure => simp [intOf]; omega
          case rel => exact ⟨k + 1, by omega, by go_num, hB, hb, hz⟩
    · obtain rfl : k = s.size := by omega
      rw [← hl, upTo_all] at hB
      have hst := hB.string (P := Try.prog) 48 9 5 cap s.size (by simp) Try.underlying48 Try.underlying5 Try.underlying9
      obtain ⟨u, hu⟩ : ∃ u : ByteArray, upS s = u := ⟨_, rfl⟩
      rw [show (⟨(s.data.toList.map upB).toArray⟩ : ByteArray) = u from hu] at hst
      have HU := Lib.hid hu
      clear hB hu
      go_wp2_with fail
      go_ret
      exact ⟨by rw [HU.out]; rfl, hb⟩

/-- Where a byte is, from a on ahead of b; b: nowhere. -/
def findL (s : ByteArray) (a b : Nat) (c : UInt8) : Nat := if 0 ≤ Lib.indexByte (s.extract a b).data.toList c then a + (Lib.indexByte (s.extract a b).data.toList c).toNat else b
theorem seg_size (s : ByteArray) {a b : Nat} (h2 : b ≤ s.size) : (s.extract a b).size = b - a := by
  rw [ByteArray.size_extract]; omega
theorem seg_at (s : ByteArray) {a b : Nat} (h2 : b ≤ s.size) (i : Nat) (hi : a + i < b) : (s.extract a b).data.toList[i]? = s.data.toList[a + i]? := by
  rw [ByteArray.data_extract, Array.toList_extract, List.getElem?_take, if_pos (by omega), List.getElem?_drop]
theorem findL_cases (s : ByteArray) (a b : Nat) (c : UInt8) (h1 : a ≤ b) (h2 : b ≤ s.size) :
    (findL s a b c = b ∧ Lib.indexByte (s.extract a b).data.toList c = -1) ∨ ∃ i : Nat, findL s a b c = a + i ∧ a + i < b ∧ Lib.indexByte (s.extract a b).data.toList c = i := by
  rcases idxB (s.extract a b) c with h | ⟨i, h, hi⟩
  · left; exact ⟨by unfold findL; rw [h, if_neg (by omega)], h⟩
  · right
    rw [seg_size s h2] at hi
    exact ⟨i, by unfold findL; rw [h, if_pos (by omega)]; simp, by omega, h⟩
theorem findL_le (s : ByteArray) (a b : Nat) (c : UInt8) (h1 : a ≤ b) (h2 : b ≤ s.size) : a ≤ findL s a b c ∧ findL s a b c ≤ b := by
  rcases findL_cases s a b c h1 h2 with ⟨h, _⟩ | ⟨i, h, hi, _⟩ <;> omega
theorem findL_hit (s : ByteArray) (a b k : Nat) (c : UInt8) (h1 : a ≤ k) (hk : k < b) (h2 : b ≤ s.size) (hc : s.data.toList[k]? = some c) (hno : ∀ j, a ≤ j → j < k → s.data.toList[j]? ≠ some c) : findL s a b c = k := by
  rcases findL_cases s a b c (by omega) h2 with ⟨_, h⟩ | ⟨i, h, hi, hx⟩
  · exfalso
    have := Lib.indexByte_none h (k - a)
    rw [seg_at s h2 _ (by omega), show a + (k - a) = k by omega] at this
    exact this hc
  · obtain ⟨p1, p2⟩ := Lib.indexByte_some hx
    rw [seg_at s h2 _ hi] at p1
    rw [h]
    rcases Nat.lt_trichotomy (a + i) k with h' | h' | h'
    · exact absurd p1 (hno _ (by omega) h')
    · exact h'
    · exfalso
      have := p2 (k - a) (by omega)
      rw [seg_at s h2 _ (by omega), show a + (k - a) = k by omega] at this
      exact this hc
theorem findL_miss (s : ByteArray) (a b : Nat) (c : UInt8) (h1 : a ≤ b) (h2 : b ≤ s.size) (hno : ∀ j, a ≤ j → j < b → s.data.toList[j]? ≠ some c) : findL s a b c = b := by
  rcases findL_cases s a b c h1 h2 with ⟨h, _⟩ | ⟨i, h, hi, hx⟩
  · exact h
  · obtain ⟨p1, p2⟩ := Lib.indexByte_some hx
    rw [seg_at s h2 _ hi] at p1
    exact absurd p1 (hno _ (by omega) hi)
theorem extract2 (s : ByteArray) (a b i j : Nat) (h : b ≤ s.size) (hj : a + j ≤ b) : (s.extract a b).extract i j = s.extract (a + i) (a + j) := by
  apply ByteArray.ext
  apply Array.toList_inj.1
  simp only [ByteArray.data_extract, Array.toList_extract]
  apply List.ext_getElem?
  intro k
  rw [List.getElem?_take, List.getElem?_take, List.getElem?_drop, List.getElem?_drop]
  by_cases hk : k < j - i
  · rw [if_pos hk, if_pos (by omega), Array.toList_extract]
    show ((s.data.toList.drop a).take (b - a))[i + k]? = _
    rw [List.getElem?_take, if_pos (by omega), List.getElem?_drop, Nat.add_assoc]
  · rw [if_neg hk, if_neg (by omega)]
theorem cut_ext (s : ByteArray) (a b : Nat) (c : UInt8) (h1 : a ≤ b) (h2 : b ≤ s.size) :
    cutB (s.extract a b) c = if findL s a b c < b then (s.extract a (findL s a b c), s.extract (findL s a b c + 1) b, true) else (s.extract a b, ⟨#[]⟩, false) := by
  rcases findL_cases s a b c h1 h2 with ⟨h, hx⟩ | ⟨i, h, hi, hx⟩
  · rw [cutB_none hx, h, if_neg (by omega)]
  · rw [cutB_some hx, h, if_pos hi, extract2 s a b 0 i h2 (by omega), seg_size s h2, extract2 s a b (i + 1) (b - a) h2 (by omega), Nat.add_zero, show a + (b - a) = b by omega, Nat.add_assoc]

set_option maxHeartbeats 1000000 in
set_option maxRecDepth 100000 in
theorem find_ref (s : ByteArray) (a b : Nat) (c : UInt8) (w : World) (h1 : a ≤ b) (h2 : b ≤ s.size) (hs : s.size ≤ 100000) : Calls Try.prog 45 #[.string s, .int .i64 a, .int .i64 b, .int .u8 c.toNat] w (IntPost .i64 (findL s a b c) w) := by
  go_enter Try.func45, Try.ntmps45
  go_wp2_with fail
  go_loopw [9] (fun v9 wr => ∃ k : Nat, a ≤ k ∧ k ≤ b ∧ v9 = .int .i64 k ∧ Hid (∀ j, a ≤ j → j < k → s.data.toList[j]? ≠ some c) ∧ wr = w) (fun v9 _ => b - (intOf v9).toNat)
  case atStart => exact ⟨a, by omega, by omega, rfl, Lib.hid (fun j _ _ => by omega), rfl⟩
  case round =>
    obtain ⟨k, hak, hk, rfl, hno, rfl⟩ := hrel
    by_cases hkl : k < b
    · have hk2 : (k : Int) < (b : Int) := by omega
      have hks : k < s.size := by omega
      have hks2 : (k : Int) < (s.size : Int) := by omega
      obtain ⟨y, hy⟩ : ∃ y, s[k]'hks = y := ⟨_, rfl⟩
      have hyn := y.toNat_lt
      have hlim : k ≤ 100000 := by omega
      have HY := Lib.hid (show s.data.toList[k]? = some y by rw [← hy]; exact Lib.data_getElem? s k hks)
      by_cases hc : y = c
      · have HR := Lib.hid (findL_hit s a b k c hak hkl h2 (by rw [HY.out, hc]) hno.out)
        have hce : ((y.toNat : Int) == (c.toNat : Int)) = true := by rw [hc]; simp
        clear hc
        go_wp2_with fail
        go_ret
        exact ⟨by rw [HR.out]; rfl, rfl⟩
      · have HN := Lib.hid (show ∀ j, a ≤ j → j < k + 1 → s.data.toList[j]? ≠ some c from fun j h3 h4 => by
          by_cases hj : j = k
          · subst hj; rw [HY.out]; intro h; exact hc (Option.some.inj h)
          · exact hno.out j h3 (by omega))
        have hce : ((y.toNat : Int) == (c.toNat : Int)) = false := by
          simp only [beq_eq_false_iff_ne]
          intro h
          exact hc (UInt8.toNat_inj.1 (by omega))
        clear hc
        go_wp2_with fail
        go_roundw
        case measure => simp [intOf]; omega
        case rel => exact ⟨k + 1, by omega, by omega, by go_num, HN, by first | rfl | trivial⟩
    · obtain rfl : k = b := by omega
      have HR := Lib.hid (findL_miss s a k c h1 h2 hno.out)
      clear hno
      go_wp2_with fail
      go_ret
      exact ⟨by rw [HR.out]; rfl, rfl⟩
end Go.Proofs.Ytioeobkneikgfaa
