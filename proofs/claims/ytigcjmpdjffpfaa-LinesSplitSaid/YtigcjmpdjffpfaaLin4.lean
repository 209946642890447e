/- Texts in lines: Join, the program's and the reference's; too much of them. -/
import Derived.Test.YtigcjmpdjffpfaaLin3
import Derived.Test.YtigcjmpdjffpfaaBuilder
namespace Go.Proofs.Ytigcjmpdjffpfaa
open Go.RowKit Lift
set_option linter.unusedSimpArgs false
set_option linter.unusedVariables false

/-- Lines as a text. -/
def joinL (l : List ByteArray) : List UInt8 := l.flatMap fun s => s.data.toList ++ [13, 10]
theorem joinL_snoc (l : List ByteArray) (c : ByteArray) : joinL (l ++ [c]) = joinL l ++ (c.data.toList ++ [13, 10]) := by simp [joinL]
/-- How much the first so many have. -/
def sumL (l : List ByteArray) : Nat := (l.map ByteArray.size).sum
theorem sumL_snoc (l : List ByteArray) (c : ByteArray) : sumL (l ++ [c]) = sumL l + c.size := by simp [sumL]
theorem joinL_len : ∀ l : List ByteArray, (joinL l).length = sumL l + 2 * l.length
  | [] => rfl
  | c :: r => by
    have h := joinL_len r
    simp only [joinL, sumL, List.flatMap_cons, List.map_cons, List.sum_cons, List.length_append, List.length_cons] at *
    have : c.data.toList.length = c.size := by simp
    rw [h, this]; simp; omega
theorem sumL_take (l : List ByteArray) (k : Nat) : sumL (l.take k) ≤ sumL l := by
  have h := congrArg (fun l : List ByteArray => (l.map ByteArray.size).sum) (List.take_append_drop k l)
  simp only [List.map_append, List.sum_append] at h
  unfold sumL
  omega

set_option maxHeartbeats 1000000 in
set_option maxRecDepth 100000 in
theorem join_any (ao : Option Addr) (cap : Nat) (l : List ByteArray) (w : World) (hl : SlAt Rd.str (· < w.heap.size) w ao l) (hlen : l.length ≤ 100000) (hsum : sumL l ≤ 1000000) :
    Calls Try.prog 8 #[.slice ao l.length cap] w (StrB (toB (joinL l)) w) := by
  have hA : Below w.heap.size w (w.alloc (.cells #[.pointer none, .slice none 0 0] 34)) := (Below.refl _ _).alloc (Nat.le_refl _) _
  go_enter Try.func8, Try.ntmps8
  go_wp2_with fail
  go_loopw [8] (fun v8 wr => ∃ (k : Nat) (x : Option Nat), k ≤ l.length ∧ v8 = .int .i64 k ∧ Buf w.heap.size x (joinL (l.take k)) wr ∧ (∀ j, x = some j → w.heap.size ≤ j) ∧ Below w.heap.size w wr) (fun v8 _ => l.length - (intOf v8).toNat)
  case atStart => exact ⟨0, none, by omega, rfl, Buf.fresh w, (by intro j h; cases h), hA⟩
  case round =>
    obtain ⟨k, x, hk, rfl, hB, hx, hb⟩ := hrel
    have hblt := hB.lt.1
    by_cases hkl : k < l.length
    · obtain ⟨c, hcl⟩ := some_at hkl
      obtain ⟨bb, oo, rfl, hs1, hb4, hok, y0⟩ := str_get (hl.old hb) hcl
      have hk2 : (k : Int) < (l.length : Int) := by omega
      have hlim : k ≤ 100000 := by omega
      have hT := joinL_snoc (l.take k) c
      rw [← take_at2 hcl] at hT
      have hlen2 := joinL_len (l.take (k + 1))
      have hst := sumL_take l (k + 1)
      rw [hT] at hlen2
      simp only [List.length_append, List.length_cons, List.length_nil, List.length_take] at hlen2
      have hcl2 : c.data.toList.length = c.size := by simp
      have HT := Lib.hid hT
      have hj1 : (joinL (l.take k)).length + c.size ≤ 10000000 := by omega
      clear hT hlen2
      go_wp2_with fail
      refine (writeString_any w.heap.size x _ c _ hB (by omega)).mono ?_
      rintro e w1 ⟨rfl, x1, hB1, hk1, hx1⟩
      go_wp2_with fail
      refine (writeString_any w.heap.size x1 _ ⟨#[13, 10]⟩ _ hB1 (by rw [show (⟨#[13, 10]⟩ : ByteArray).size = 2 from rfl, List.length_append]; omega)).mono ?_
      rintro e w2 ⟨rfl, x2, hB2, hk2, hx2⟩
      have hxa : ∀ j, x1 = some j → w.heap.size ≤ j := by
        intro j hj
        rcases hx1 with h | ⟨g, h, hg⟩
        · exact hx j (by rw [← h]; exact hj)
        · rw [h] at hj; cases hj; omega
      have hxb : ∀ j, x2 = some j → w.heap.size ≤ j := by
        intro j hj
        have := hk1.size
        rcases hx2 with h | ⟨g, h, hg⟩
        · exact hxa j (by rw [← h]; exact hj)
        · rw [h] at hj; cases hj; omega
      have hbb := hb.size
      have hW1 := hb.trans (hk1.below hb.size (fun k hk => by rcases hk with rfl | hk; exact Nat.le_refl _; exact hx k hk.symm))
      have hW2 := hW1.trans (hk2.below hW1.size (fun k hk => by rcases hk with rfl | hk; exact Nat.le_refl _; exact hxa k hk.symm))
      go_wp2_with fail
      go_roundw
      case measure => simp [intOf]; omega
      case rel => exact ⟨k + 1, x2, by omega, by go_num, by rw [HT.out]; simpa using hB2, hxb, hW2⟩
    · obtain rfl : k = l.length := by omega
      rw [List.take_length] at hB
      go_wp2_with fail
      refine (bufString_any w.heap.size w.heap.size x _ _ hB (Nat.le_refl _) hx).mono ?_
      rintro e w1 ⟨rfl, hb1⟩
      go_wp2_with fail
      go_ret
      exact ⟨rfl, hb.trans hb1⟩

set_option maxHeartbeats 1000000 in
set_option maxRecDepth 100000 in
theorem join_ref (ao : Option Addr) (cap : Nat) (l : List ByteArray) (w : World) (hl : SlAt Rd.str (· < w.heap.size) w ao l) (hlen : l.length ≤ 100000) (hsum : sumL l ≤ 1000000) :
    Calls Try.prog 9 #[.slice ao l.length cap] w (StrB (toB (joinL l)) w) := by
  go_enter Try.func9, Try.ntmps9
  go_wp2_with fail
  go_loopw [3, 4] (fun v3 v4 wr => ∃ (k : Nat) (t : ByteArray), k ≤ l.length ∧ v4 = .int .i64 k ∧ v3 = .string t ∧ Hid (t = toB (joinL (l.take k))) ∧ t.size ≤ 10000000 ∧ Below w.heap.size w wr) (fun _ v4 _ => l.length - (intOf v4).toNat)
  case atStart => exact ⟨0, ByteArray.empty, by omega, rfl, by first | rfl | simp, Lib.hid rfl, by show 0 ≤ 10000000; omega, Below.refl _ _⟩
  case round =>
    obtain ⟨k, t, hk, rfl, rfl, ht, htz, hb⟩ := hrel
    by_cases hkl : k < l.length
    · obtain ⟨c, hcl⟩ := some_at hkl
      obtain ⟨bb, oo, rfl, hs1, hb4, hok, y0⟩ := str_get (hl.old hb) hcl
      have hk2 : (k : Int) < (l.length : Int) := by omega
      have hlim : k ≤ 100000 := by omega
      have hT := joinL_snoc (l.take k) c
      rw [← take_at2 hcl] at hT
      have hlen2 := joinL_len (l.take (k + 1))
      have hst := sumL_take l (k + 1)
      have hcz : c.size ≤ 1000000 := by
        have h1 := sumL_snoc (l.take k) c
        rw [← take_at2 hcl] at h1; omega
      have HT : Hid ((t ++ c ++ (⟨#[13, 10]⟩ : ByteArray)) = toB (joinL (l.take (k + 1)))) := Lib.hid (str_ext (by rw [byte_list, byte_list, append_list, append_list, toB_list, hT, ht.out, toB_list]; simp))
      have hsz : (t ++ c ++ (⟨#[13, 10]⟩ : ByteArray)).size ≤ 10000000 := by
        rw [HT.out, toB_size, hlen2]; simp; omega
      clear hT hlen2
      go_wp2_with fail
      go_roundw
      case measure => simp [intOf]; omega
      case rel => exact ⟨k + 1, t ++ c ++ (⟨#[13, 10]⟩ : ByteArray), by omega, by go_num, by first | rfl | simp, HT, hsz, hb⟩
    · obtain rfl : k = l.length := by omega
      have ht2 := ht.out
      rw [List.take_length] at ht2
      have HT := Lib.hid ht2
      clear ht2
      go_wp2_with fail
      go_ret
      exact ⟨by rw [← HT.out]; rfl, hb⟩

/-- Are they too much? -/
def greatS : Nat → Nat → List ByteArray → Bool
  | _, _, [] => false
  | n, i, c :: r => if 2000 < n + c.size ∨ 200 < i then true else greatS (n + c.size) (i + 1) r
theorem greatS_len : ∀ (l : List ByteArray) (n i : Nat), greatS n i l = false → n ≤ 2000 → n + sumL l ≤ 2000 ∧ (i + l.length ≤ max i 201)
  | [], n, i, _, h => ⟨by simpa [sumL] using h, by simp; omega⟩
  | c :: r, n, i, h, hn => by
    rw [greatS] at h
    split at h
    · cases h
    · rename_i hs
      have := greatS_len r _ _ h (by omega)
      simp [sumL] at this ⊢
      omega
set_option maxHeartbeats 1000000 in
set_option maxRecDepth 100000 in
theorem great_strs (ao : Option Addr) (cap : Nat) (l : List ByteArray) (w : World) (hl : SlAt Rd.str (· < w.heap.size) w ao l) (hlen : l.length ≤ 9223372036854775807) :
    Calls Try.prog 4 #[.slice ao l.length cap] w (BelowPost (.bool (greatS 0 0 l)) w) := by
  go_enter Try.func4, Try.ntmps4
  go_wp2_with fail
  go_loopw [3, 4] (fun v3 v4 wr => ∃ k n : Nat, k ≤ l.length ∧ k ≤ 201 ∧ n ≤ 2000 ∧ v4 = .int .i64 k ∧ v3 = .int .i64 n ∧ Hid (greatS 0 0 l = greatS n k (l.drop k)) ∧ Below w.heap.size w wr) (fun _ v4 _ => l.length - (intOf v4).toNat)
  case atStart => exact ⟨0, 0, by omega, by omega, by omega, rfl, rfl, Lib.hid rfl, Below.refl _ _⟩
  case round =>
    obtain ⟨k, n, hk, hk2, hn, rfl, rfl, hg, hb⟩ := hrel
    by_cases hkl : k < l.length
    · obtain ⟨c, hcl⟩ := some_at hkl
      obtain ⟨bb, oo, rfl, hs1, hb4, hok, y0⟩ := str_get (hl.old hb) hcl
      have hk3 : (k : Int) < (l.length : Int) := by omega
      have hg2 := hg.out
      rw [drop_at2 hcl, greatS] at hg2
      have hz3 : c.size ≤ 140737488351232 := by simpa [maxTx] using hok
      by_cases h1 : 2000 < n + c.size
      · have d1 : decide ((2000:Int) < ((n:Int) + (c.size:Int))) = true := by simp; omega
        rw [if_pos (.inl h1)] at hg2
        have HG := Lib.hid hg2
        clear hg2
        go_wp2_with fail
        go_ret
        exact ⟨by rw [HG.out]; rfl, hb⟩
      · have hcz : c.size ≤ 2000 := by omega
        have d1 : decide ((2000:Int) < ((n:Int) + (c.size:Int))) = false := by simp; omega
        by_cases h2 : 200 < k
        · have d2 : decide ((200:Int) < (k:Int)) = true := by simp; omega
          rw [if_pos (.inr h2)] at hg2
          have HG := Lib.hid hg2
          clear hg2
          go_wp2_with fail
          go_ret
          exact ⟨by rw [HG.out]; rfl, hb⟩
        · have d2 : decide ((200:Int) < (k:Int)) = false := by simp; omega
          rw [if_neg (by omega)] at hg2
          have HG := Lib.hid hg2
          clear hg2
          go_wp2_with fail
          go_roundw
          case measure => simp [intOf]; omega
          case rel => exact ⟨k + 1, n + c.size, by omega, by omega, by omega, by go_num, by go_num, HG, hb⟩
    · obtain rfl : k = l.length := by omega
      have hg2 := hg.out
      rw [List.drop_length, greatS] at hg2
      have HG := Lib.hid hg2
      clear hg2
      go_wp2_with fail
      go_ret
      exact ⟨by rw [HG.out]; rfl, hb⟩
end Go.Proofs.Ytigcjmpdjffpfaa
