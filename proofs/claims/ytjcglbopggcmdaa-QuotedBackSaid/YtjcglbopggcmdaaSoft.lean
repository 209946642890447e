/- Soft of the program is softL. -/
import Derived.Test.YtjcglbopggcmdaaDecRef
import Derived.Lib.LastIndexByte
namespace Go.Proofs.Ytjcglbopggcmdaa
open Go.RowKit Lift
set_option linter.unusedSimpArgs false
set_option linter.unusedVariables false

def cutAt (m : Nat) (l : List UInt8) : Nat := if l.getD (m - 2) 0 = 61 then m - 2 else if l.getD (m - 3) 0 = 61 then m - 3 else m - 1
theorem cutAt_ge (m : Nat) (l : List UInt8) : m - 3 ≤ cutAt m l ∧ cutAt m l ≤ m - 1 := by unfold cutAt; (repeat' split) <;> omega
def NoTwo (l : List UInt8) : Prop := ∀ j, l.getD j 0 = 61 → l.getD (j + 1) 0 ≠ 61
theorem NoTwo.drop {l : List UInt8} (h : NoTwo l) (k : Nat) : NoTwo (l.drop k) := by
  intro j hj
  have e : ∀ i, (l.drop k).getD i 0 = l.getD (k + i) 0 := fun i => by simp [List.getD_eq_getElem?_getD]
  rw [e] at hj ⊢
  exact h (k + j) hj

/-- A text in lines. -/
def softL (m : Nat) (l : List UInt8) : List UInt8 :=
  if h : m < l.length ∧ 4 ≤ m then l.take (cutAt m l) ++ [61, 13, 10] ++ softL m (l.drop (cutAt m l)) else l
termination_by l.length
decreasing_by have := cutAt_ge m l; simp; omega
theorem softL_short {m : Nat} {l : List UInt8} (h : l.length ≤ m) : softL m l = l := by rw [softL, dif_neg (by omega)]
theorem softL_long {m : Nat} {l : List UInt8} (h : m < l.length) (h4 : 4 ≤ m) : softL m l = l.take (cutAt m l) ++ [61, 13, 10] ++ softL m (l.drop (cutAt m l)) := by
  conv => lhs; rw [softL]
  rw [dif_pos ⟨h, h4⟩]

/-- The last mark of a line, told. -/
theorem last_cut (s : ByteArray) (m : Nat) (h4 : 4 ≤ m) (hm : m < s.size) (h2 : NoTwo s.data.toList) :
    (Lib.lastIndexByte (s.extract 0 (m - 1)) 61 = (cutAt m s.data.toList : Int) ∧ cutAt m s.data.toList < m - 1) ∨
    (cutAt m s.data.toList = m - 1 ∧ (Lib.lastIndexByte (s.extract 0 (m - 1)) 61 = -1 ∨ (0 ≤ Lib.lastIndexByte (s.extract 0 (m - 1)) 61 ∧ Lib.lastIndexByte (s.extract 0 (m - 1)) 61 + 3 ≤ m - 1))) := by
  have hz : (s.extract 0 (m - 1)).size = m - 1 := by simp; omega
  have hg : ∀ j, j < m - 1 → (s.extract 0 (m - 1)).data[j]! = s.data.toList.getD j 0 := by
    intro j hj
    simp only [ByteArray.data_extract]
    rw [getElem!_pos _ _ (by simp; show j < min (m-1) s.size; omega)]
    simp [List.getD_eq_getElem?_getD]
    rw [Array.getElem?_eq_getElem (by show j < s.size; omega)]
    rfl
  have h3 : ∀ j, s.data.toList.getD j 0 = 61 ↔ ((s.data.toList.getD j 0).toNat : Int) = 61 := fun j => by
    constructor
    · intro h; rw [h]; rfl
    · intro h; exact UInt8.toNat_inj.1 (by show _ = 61; omega)
  have ha := h2 (m - 3)
  rw [show m - 3 + 1 = m - 2 by omega] at ha
  rcases Lib.lastIndexByte_spec (s.extract 0 (m - 1)) 61 with ⟨h, hn⟩ | ⟨i, hi, h, hc, hn⟩
  · right
    have e1 := hn (m - 2) (by omega); have e2 := hn (m - 3) (by omega)
    rw [hg _ (by omega)] at e1 e2
    refine ⟨?_, .inl h⟩
    unfold cutAt
    rw [if_neg (by rw [h3]; exact e1), if_neg (by rw [h3]; exact e2)]
  · rw [hz] at hi hn
    rw [hg _ hi] at hc
    have e1 := hn (m - 2); have e2 := hn (m - 3)
    rw [hg _ (by omega)] at e1 e2
    unfold cutAt
    by_cases hi2 : i = m - 2
    · left; subst hi2; rw [if_pos ((h3 _).2 hc)]; exact ⟨h, by omega⟩
    · have hne2 : s.data.toList.getD (m - 2) 0 ≠ 61 := by rw [ne_eq, h3]; exact e1 (by omega) (by omega)
      rw [if_neg hne2]
      by_cases hi3 : i = m - 3
      · left; subst hi3; rw [if_pos ((h3 _).2 hc)]; exact ⟨h, by omega⟩
      · right
        rw [if_neg (by rw [h3]; exact e2 (by omega) (by omega))]
        exact ⟨rfl, .inr ⟨by omega, by omega⟩⟩

def strLen : Value → Nat
  | .string s => s.size
  | _ => 0
def SIn (m : Nat) (s0 : ByteArray) (B : Nat) (w wr : World) (v : Value) : Prop :=
  ∃ (s : ByteArray) (acc : List UInt8) (x : Option Nat), s.size ≤ s0.size ∧ v = .string s ∧ Buf B x acc wr ∧ NoTwo s.data.toList ∧ acc ++ softL m s.data.toList = softL m s0.data.toList ∧ acc.length + 4 * s.size ≤ 4 * s0.size ∧ (∀ j, x = some j → B ≤ j) ∧ Below w.heap.size w wr

theorem ext0_size (s : ByteArray) (n : Nat) (h : n ≤ s.size) : (s.extract 0 n).size = n := by simp; omega
theorem ext0_list (s : ByteArray) (n : Nat) : (s.extract 0 n).data.toList = s.data.toList.take n := by
  simp only [ByteArray.data_extract, Array.toList_extract, List.extract_eq_take_drop]; simp

set_option maxHeartbeats 1000000 in
set_option maxRecDepth 100000 in
theorem soft_loop (s0 : ByteArray) (q : Nat) (h4 : 3 ≤ q) (hm : q ≤ 199) (w : World) (hs : s0.size ≤ 1000000) (d : ByteArray) (hdec : ∀ w, Calls Try.prog 10 #[.string s0] w (DecPost (d.data.toList, 0) w)) (henc : ∀ w, Calls Try.prog 8 #[.string d] w (StrPost s0.data.toList w)) (h2 : NoTwo s0.data.toList) :
    Calls Try.prog 12 #[.string s0, .int .i64 ((q:Int) + 1)] w (DecPost (softL (q + 1) s0.data.toList, 0) w) := by
  have HD := Lib.hid hdec; have HE := Lib.hid henc; have H2 := Lib.hid h2
  clear hdec henc h2
  go_enter Try.func12, Try.ntmps12
  go_wp2_with fail
  refine (HD.out _).mono ?_
  rintro e w1 ⟨rfl, hb1⟩
  go_wp2_with fail
  refine (HE.out _).mono ?_
  rintro e w2 ⟨rfl, hb2⟩
  go_wp2_with fail
  have hb02 := chain hb1 hb2
  have hBB : w.heap.size ≤ w2.heap.size := hb02.size
  have hB0 := Buf.fresh w2
  have hbw0 : Below w.heap.size w (w2.alloc (.cells #[.pointer none, .slice none 0 0] 34)) := hb02.alloc hBB _
  have HB := Lib.hid hB0; have HBW := Lib.hid hbw0
  clear hB0 hb1 hb2 hb02 hbw0
  go_loopw [0] (fun v0 wr => SIn (q + 1) s0 w2.heap.size w wr v0) (fun v0 _ => strLen v0)
  case atStart => exact ⟨s0, [], none, by omega, rfl, HB.out, H2.out, rfl, by simp, by simp, HBW.out⟩
  case round =>
    obtain ⟨s, acc, x, hk, rfl, hB, hn2, hsoft, hal, hx, hb⟩ := hrel
    have hB' := hb.size
    by_cases hks : q + 1 < s.size
    · have hlen : s.data.toList.length = s.size := by simp
      rw [softL_long (by rw [hlen]; exact hks) (by omega)] at hsoft
      have hge := cutAt_ge (q + 1) s.data.toList
      have hlc := last_cut s (q + 1) (by omega) hks hn2
      have hdr := extract_rest s (cutAt (q + 1) s.data.toList)
      have htk := ext0_list s (cutAt (q + 1) s.data.toList)
      have hn3 := hn2.drop (cutAt (q + 1) s.data.toList)
      rw [← hdr] at hn3 hsoft
      rw [← htk] at hsoft
      have hz1 : (s.extract (cutAt (q + 1) s.data.toList) s.size).size = s.size - cutAt (q + 1) s.data.toList := by simp
      have hz2 := ext0_size s (cutAt (q + 1) s.data.toList) (by omega)
      obtain ⟨c, hc⟩ : ∃ c, cutAt (q + 1) s.data.toList = c := ⟨_, rfl⟩
      rw [hc] at hge hlc hz1 hz2 hn3 hsoft
      simp only [Nat.add_sub_cancel] at hlc
      have hcall := Try.strings_LastIndexByte (s.extract 0 q) 61 (by rw [ext0_size _ _ (by omega)]; omega)
      obtain ⟨i, hi⟩ : ∃ i, Lib.lastIndexByte (s.extract 0 q) 61 = i := ⟨_, rfl⟩
      rw [hi] at hlc hcall
      have HSOFT := Lib.hid hsoft; have HN := Lib.hid hn3; have HZ1 := Lib.hid hz1; have HZ2 := Lib.hid hz2; have HC := Lib.hid hcall
      clear hsoft hn3 hz1 hz2 hcall hi hlen hdr htk hc
      have hlc2 : (i = (c : Int) ∧ (c:Int) < q) ∨ (c = q ∧ i = -1) ∨ (c = q ∧ 0 ≤ i ∧ i + 3 ≤ q) := by omega
      clear hlc
      rcases hlc2 with ⟨rfl, h1⟩ | ⟨rfl, rfl⟩ | ⟨rfl, h1, h2⟩
      all_goals
        go_wp2_with fail
        refine (HC.out _).mono ?_
        rintro e w1 ⟨rfl, rfl⟩
        go_wp2_with fail
        refine (writeString_any w2.heap.size x acc _ _ hB (by rw [HZ2.out]; omega)).mono ?_
        rintro e w3 ⟨rfl, x1, hB1, hk1, hw1⟩
        go_wp2_with fail
        have hx1 : ∀ j, x1 = some j → w2.heap.size ≤ j := by
          rcases hw1 with rfl | ⟨g, rfl, hg⟩
          · exact hx
          · intro j e; cases e; have := hB.lt.1; omega
        have hz3 : (⟨#[61, 13, 10]⟩ : ByteArray).size = 3 := rfl
        have hs1 := hk1.size
        have hlb := hB.lt.1
        refine (writeString_any w2.heap.size x1 _ _ _ hB1 (by rw [hz3]; simp only [List.length_append, Array.length_toList]; have := HZ2.out; simp only [ByteArray.size] at this; omega)).mono ?_
        rintro e w4 ⟨rfl, x2, hB2, hk2, hw2⟩
        go_wp2_with fail
        have hx2 : ∀ j, x2 = some j → w2.heap.size ≤ j := by
          rcases hw2 with rfl | ⟨g, rfl, hg⟩
          · exact hx1
          · intro j e; cases e; omega
        go_roundw
        case measure => show (s.extract _ s.size).size < s.size; rw [HZ1.out]; omega
        case rel =>
          refine ⟨_, _, x2, by rw [HZ1.out]; omega, rfl, hB2, HN.out, by rw [← HSOFT.out]; simp, ?_, hx2, (hb.trans (hk1.below hB' (by rintro j (rfl | h); omega; have := hx j h.symm; omega))).trans (hk2.below (by omega) (by rintro j (rfl | h); omega; have := hx1 j h.symm; omega))⟩
          rw [HZ1.out]
          have := HZ2.out
          simp only [ByteArray.size] at this
          simp only [List.length_append, Array.length_toList, List.length_cons, List.length_nil]
          omega
    · have hlen : s.data.toList.length = s.size := by simp
      rw [softL_short (by rw [hlen]; omega)] at hsoft
      have HSOFT := Lib.hid hsoft
      clear hsoft
      have hd : decide ((q:Int) + 1 < (s.size : Int)) = false := by simp; omega
      go_wp2_with fail
      refine (writeString_any w2.heap.size x acc _ _ hB (by omega)).mono ?_
      rintro e w3 ⟨rfl, x1, hB1, hk1, hw1⟩
      have hx1 : ∀ j, x1 = some j → w2.heap.size ≤ j := by
        rcases hw1 with rfl | ⟨g, rfl, hg⟩
        · exact hx
        · intro j e; cases e; have := hB.lt.1; omega
      go_wp2_with fail
      refine (bufString_any w.heap.size w2.heap.size x1 _ _ hB1 hBB (fun j h => by have := hx1 j h; omega)).mono ?_
      rintro e w4 ⟨rfl, hb4⟩
      go_wp2_with fail
      go_ret2
      exact ⟨by rw [← HSOFT.out]; rfl, (hb.trans (hk1.below hB' (by rintro j (rfl | h); omega; have := hx j h.symm; omega))).trans hb4⟩
end Go.Proofs.Ytjcglbopggcmdaa
