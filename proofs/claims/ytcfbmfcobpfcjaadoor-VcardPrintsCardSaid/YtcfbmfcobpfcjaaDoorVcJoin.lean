/- Many lines as a text: the program's Join, and the document's. -/
import Derived.Test.YtcfbmfcobpfcjaaDoorBKg
import Derived.Test.YtcfbmfcobpfcjaaDoorJoin
import Derived.Test.YtcfbmfcobpfcjaaDoorVcEnc
namespace Go.Proofs.YtcfbmfcobpfcjaaDoor
open Go.RowKit Lift
set_option linter.unusedSimpArgs false
set_option linter.unusedVariables false

/-- Lines as a text. -/
def joinL (l : List ByteArray) : List UInt8 := l.flatMap fun s => s.data.toList ++ [13, 10]
theorem joinL_snoc (l : List ByteArray) (c : ByteArray) : joinL (l ++ [c]) = joinL l ++ (c.data.toList ++ [13, 10]) := by simp [joinL]
theorem joinL_len : ∀ l : List ByteArray, (joinL l).length = sumB l + 2 * l.length
  | [] => rfl
  | c :: r => by
    have h := joinL_len r
    simp only [joinL, sumB, List.flatMap_cons, List.map_cons, List.sum_cons, List.length_append, List.length_cons] at *
    have : c.data.toList.length = c.size := by simp
    rw [h, this]; simp; omega
theorem sumB_le (l : List ByteArray) (k : Nat) : sumB (l.take k) ≤ sumB l := by
  have h := congrArg (fun l : List ByteArray => (l.map ByteArray.size).sum) (List.take_append_drop k l)
  simp only [List.map_append, List.sum_append] at h
  unfold sumB
  omega
set_option maxHeartbeats 4000000 in
set_option maxRecDepth 100000 in
theorem ljoin_any (ao : Option Addr) (cap : Nat) (l : List ByteArray) (w : World) (hl : SlAt Rd.str (· < w.heap.size) w ao l) (hlen : l.length ≤ 100000000) (hsum : sumB l ≤ 1000000000) :
    Calls Tryd.prog 12 #[.slice ao l.length cap] w (BelowPost (.string ⟨(joinL l).toArray⟩) w) := by
  have hA : Below w.heap.size w (w.alloc (.cells #[.pointer none, .slice none 0 0] 50)) := (Below.refl _ _).alloc (Nat.le_refl _) _
  go_enter Tryd.func12, Tryd.ntmps12
  go_wp2_with fail
  go_loopw [8] (fun v8 wr => ∃ (k : Nat) (x : Option Nat), k ≤ l.length ∧ v8 = .int .i64 k ∧ Buf w.heap.size x (joinL (l.take k)) wr ∧ (∀ j, x = some j → w.heap.size ≤ j) ∧ Below w.heap.size w wr) (fun v8 _ => l.length - (intOf v8).toNat)
  case atStart => exact ⟨0, none, by omega, rfl, Buf.fresh w, (by intro j h; cases h), hA⟩
  case round =>
    obtain ⟨k, x, hk, rfl, hB, hx, hb⟩ := hrel
    have hblt := hB.lt.1
    by_cases hkl : k < l.length
    · obtain ⟨c, hcl⟩ := some_at hkl
      obtain ⟨bb, oo, rfl, hs1, hb4, hok, y0⟩ := str_get (hl.old hb) hcl
      have hk2 : (k : Int) < (l.length : Int) := by omega
      have hlim : k ≤ 100000000 := by omega
      have hT := joinL_snoc (l.take k) c
      rw [← take_at2 hcl] at hT
      have hlen2 := joinL_len (l.take (k + 1))
      have hst := sumB_le l (k + 1)
      rw [hT] at hlen2
      simp only [List.length_append, List.length_cons, List.length_nil, List.length_take] at hlen2
      have hcl2 : c.data.toList.length = c.size := by simp
      have HT := Lib.hid hT
      have hj1 : (joinL (l.take k)).length + c.size ≤ 10000000000 := by omega
      clear hT hlen2 hcl2 hst
      go_wp2_with fail
      refine (writeString_any w.heap.size x _ c _ hB (by omega)).mono ?_
      rintro e w1 ⟨rfl, x1, hB1, hk1, hx1⟩
      go_wp2_with fail
      refine (writeString_any w.heap.size x1 _ ⟨#[13, 10]⟩ _ hB1 (by rw [show (⟨#[13, 10]⟩ : ByteArray).size = 2 from rfl, List.length_append]; have hq : c.data.toList.length = c.size := (by simp); omega)).mono ?_
      rintro e w2 ⟨rfl, x2, hB2, hk2, hx2⟩
      have hxa : ∀ j, x1 = some j → w.heap.size ≤ j := by
        intro j hj
        rcases hx1 with h | ⟨g, h, hg⟩
        · exact hx j (by rw [← h]; exact hj)
        · rw [h] at hj; cases hj; omega
      have hxb : ∀ j, x2 = some j → w.heap.size ≤ j := by
        intro j hj
        have := hk1.size
        rcases hx2 with h | ⟨g, h, hg⟩
        · exact hxa j (by rw [← h]; exact hj)
        · rw [h] at hj; cases hj; omega
      have hbb := hb.size
      have hW1 := hb.trans (hk1.below hb.size (fun k hk => by rcases hk with rfl | hk; exact Nat.le_refl _; exact hx k hk.symm))
      have hW2 := hW1.trans (hk2.below hW1.size (fun k hk => by rcases hk with rfl | hk; exact Nat.le_refl _; exact hxa k hk.symm))
      go_wp2_with fail
      go_roundw
      case measure => simp [intOf]; omega
      case rel => exact ⟨k + 1, x2, by omega, by go_num, by rw [HT.out]; simpa using hB2, hxb, hW2⟩
    · obtain rfl : k = l.length := by omega
      rw [List.take_length] at hB
      go_wp2_with fail
      refine (bufString_any w.heap.size w.heap.size x _ _ hB (Nat.le_refl _) hx).mono ?_
      rintro e w1 ⟨rfl, hb1⟩
      go_wp2_with fail
      go_ret
      exact ⟨rfl, hb.trans hb1⟩
set_option maxHeartbeats 4000000 in
set_option maxRecDepth 100000 in
theorem ljoin_ref (ao : Option Addr) (cap : Nat) (l : List ByteArray) (w : World) (hl : SlAt Rd.str (· < w.heap.size) w ao l) (hlen : l.length ≤ 100000000) (hsum : sumB l ≤ 1000000000) :
    Calls Tryd.prog 14 #[.slice ao l.length cap] w (BelowPost (.string ⟨(joinL l).toArray⟩) w) := by
  go_enter Tryd.func14, Tryd.ntmps14
  go_wp2_with fail
  go_loopw [3, 4] (fun v3 v4 wr => ∃ (k : Nat) (t : ByteArray), k ≤ l.length ∧ v4 = .int .i64 k ∧ v3 = .string t ∧ Hid (t = ⟨(joinL (l.take k)).toArray⟩) ∧ t.size ≤ 10000000000 ∧ Below w.heap.size w wr) (fun _ v4 _ => l.length - (intOf v4).toNat)
  case atStart => exact ⟨0, ByteArray.empty, by omega, rfl, by first | rfl | simp, Lib.hid rfl, by show 0 ≤ 10000000000; omega, Below.refl _ _⟩
  case round =>
    obtain ⟨k, t, hk, rfl, rfl, ht, htz, hb⟩ := hrel
    by_cases hkl : k < l.length
    · obtain ⟨c, hcl⟩ := some_at hkl
      obtain ⟨bb, oo, rfl, hs1, hb4, hok, y0⟩ := str_get (hl.old hb) hcl
      have hk2 : (k : Int) < (l.length : Int) := by omega
      have hlim : k ≤ 100000000 := by omega
      have hT := joinL_snoc (l.take k) c
      rw [← take_at2 hcl] at hT
      have hlen2 := joinL_len (l.take (k + 1))
      have hst := sumB_le l (k + 1)
      have hcz : c.size ≤ 1000000000 := by
        have h1 := sumB_take hcl
        omega
      have HT : Hid ((t ++ c ++ (⟨#[13, 10]⟩ : ByteArray)) = ⟨(joinL (l.take (k + 1))).toArray⟩) := Lib.hid (by
        rw [hT, ht.out]; apply ByteArray.ext; apply Array.toList_inj.1; simp)
      have hsz : (t ++ c ++ (⟨#[13, 10]⟩ : ByteArray)).size ≤ 10000000000 := by
        rw [HT.out]
        show (joinL (l.take (k + 1))).length ≤ _
        rw [hlen2, List.length_take]; omega
      clear hT hlen2 hst
      go_wp2_with fail
      go_roundw
      case measure => simp [intOf]; omega
      case rel => exact ⟨k + 1, t ++ c ++ (⟨#[13, 10]⟩ : ByteArray), by omega, by go_num, by first | rfl | simp, HT, hsz, hb⟩
    · obtain rfl : k = l.length := by omega
      have ht2 := ht.out
      rw [List.take_length] at ht2
      have HT := Lib.hid ht2
      clear ht2
      go_wp2_with fail
      go_ret
      exact ⟨by rw [← HT.out]; rfl, hb⟩
end Go.Proofs.YtcfbmfcobpfcjaaDoor
