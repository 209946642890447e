/- Many texts as one: strings.Join. -/
import Derived.Test.YtclcahkgeaediaaDoorBKg
import Derived.Test.YtclcahkgeaediaaDoorStrs
namespace Go.Proofs.YtclcahkgeaediaaDoor
open Go.RowKit Lift
set_option linter.unusedSimpArgs false
set_option linter.unusedVariables false

def tailJ (sep : List UInt8) (l : List ByteArray) : List UInt8 := l.flatMap (fun y => sep ++ y.data.toList)
def joinB (sep : List UInt8) : List ByteArray → List UInt8
  | [] => []
  | x :: r => x.data.toList ++ tailJ sep r
def sumB (l : List ByteArray) : Nat := (l.map ByteArray.size).sum
theorem sumB_take {l : List ByteArray} {k : Nat} {c : ByteArray} (h : l[k]? = some c) : sumB (l.take (k + 1)) = sumB (l.take k) + c.size := by
  rw [take_at2 h]; simp [sumB]
theorem sumB_take_le (l : List ByteArray) (k : Nat) : sumB (l.take k) ≤ sumB l := by
  have h := congrArg sumB (List.take_append_drop k l)
  unfold sumB at h ⊢
  rw [List.map_append, List.sum_append] at h
  omega
theorem tailJ_len (sep : List UInt8) (l : List ByteArray) : (tailJ sep l).length = sep.length * l.length + sumB l := by
  induction l with
  | nil => rfl
  | cons c l ih =>
    unfold tailJ sumB at *
    rw [List.flatMap_cons, List.length_append, ih, List.length_append, List.map_cons, List.sum_cons, List.length_cons, Nat.mul_succ]
    have : c.data.toList.length = c.size := by simp
    omega
theorem tailJ_take {sep : List UInt8} {l : List ByteArray} {k : Nat} {c : ByteArray} (h : l[k]? = some c) : tailJ sep (l.take (k + 1)) = tailJ sep (l.take k) ++ (sep ++ c.data.toList) := by
  unfold tailJ; rw [take_at2 h, List.flatMap_append]; simp

theorem sumB_drop_le (l : List ByteArray) (k : Nat) : sumB (l.drop k) ≤ sumB l := by
  have h := congrArg sumB (List.take_append_drop k l)
  unfold sumB at h ⊢
  rw [List.map_append, List.sum_append] at h
  omega
theorem tail_bound {sep : List UInt8} {L : List ByteArray} {x : ByteArray} (k : Nat) (h1 : sep.length ≤ 1000) (h2 : L.length ≤ 100000) (h3 : sumB L ≤ 1000000000) (h4 : x.size ≤ 1000000000) : (x.data.toList ++ tailJ sep ((L.drop 1).take k)).length ≤ 2100000000 := by
  rw [List.length_append, tailJ_len]
  have g1 : ((L.drop 1).take k).length ≤ 100000 := by simp; omega
  have g2 := Nat.mul_le_mul h1 g1
  have g3 := Nat.le_trans (sumB_take_le (L.drop 1) k) (sumB_drop_le L 1)
  have g4 : x.data.toList.length = x.size := by simp
  omega
set_option maxHeartbeats 8000000 in
set_option maxRecDepth 100000 in
theorem join_any (ao : Option Addr) (cap : Nat) (l : List ByteArray) (sep : ByteArray) (w : World) (hl : SlAt Rd.str (· < w.heap.size) w ao l) (hlen : l.length ≤ 100000) (hsep : sep.size ≤ 1000) (hsum : sumB l ≤ 1000000000) (hcap : l.length ≤ cap) :
    Calls Tryd.prog 30 #[.slice ao l.length cap, .string sep] w (BelowPost (.string ⟨(joinB sep.data.toList l).toArray⟩) w) := by
  match l, hl, hlen, hsum, hcap with
  | [], hl, hlen, hsum, hcap =>
    go_enter Tryd.func30, Tryd.ntmps30
    go_wp2_with fail
    go_ret
    exact ⟨rfl, Below.refl _ _⟩
  | [x], hl, hlen, hsum, hcap =>
    obtain ⟨bb, oo, rfl, hs1, hb1, hok, x0⟩ := str_get hl (k := 0) rfl
    have HR := Lib.hid (show (⟨(joinB sep.data.toList [x]).toArray⟩ : ByteArray) = x by
      apply ByteArray.ext; apply Array.toList_inj.1; simp [joinB, tailJ])
    rw [HR.out]
    simp only [Nat.add_zero] at x0
    go_enter Tryd.func30, Tryd.ntmps30
    go_wp2_with fail
    go_ret
    exact ⟨rfl, Below.refl _ _⟩
  | x :: y :: r, hl, hlen, hsum, hcap =>
    obtain ⟨L, hL⟩ : ∃ L, x :: y :: r = L := ⟨_, rfl⟩
    have hl0 : L[0]? = some x := by rw [← hL]; rfl
    have h2 : 2 ≤ L.length := by rw [← hL]; simp
    have HJ := Lib.hid (show joinB sep.data.toList L = x.data.toList ++ tailJ sep.data.toList (L.drop 1) by rw [← hL]; rfl)
    rw [hL] at hl hlen hsum hcap ⊢
    clear hL
    have hle0 : ((L.length : Int) == 0) = false := beq_eq_false_iff_ne.2 (by omega)
    have hle1 : ((L.length : Int) == 1) = false := beq_eq_false_iff_ne.2 (by omega)
    have hsl : sep.data.toList.length = sep.size := by simp
    obtain ⟨m, hm⟩ : ∃ m, sep.size * (L.length - 1) = m := ⟨_, rfl⟩
    have hmle : m ≤ 100000000 := by rw [← hm]; exact Nat.le_trans (Nat.mul_le_mul hsep (show L.length - 1 ≤ 100000 by omega)) (by decide : 1000 * 100000 ≤ 100000000)
    have HM := Lib.hid hm
    have HL0 := Lib.hid hl0
    clear hl0 hm
    obtain ⟨bb, oo, rfl, hs1, hb1, hok, x0⟩ := str_get hl HL0.out
    simp only [Nat.add_zero] at x0
    rcases Nat.eq_zero_or_pos sep.size with hs0 | hs0
    case' inl =>
      have hsep0 : ¬ (0 : Int) < (sep.size : Int) := by omega
      have HM0 := Lib.hid (show m = 0 by rw [← HM.out, hs0, Nat.zero_mul])
      clear hs0
      go_enter Tryd.func30, Tryd.ntmps30
      go_wp2_with fail
    case' inr =>
      have hsep0 : (0 : Int) < (sep.size : Int) := by omega
      have hq : ¬ (9223372036854775807 / ((L.length : Int) - 1) ≤ (sep.size : Int)) := by
        intro h
        have h1 : (sep.size : Int) + 1 ≤ 9223372036854775807 / ((L.length : Int) - 1) := Int.le_ediv_of_mul_le (by omega) (by
          have h3 : ((sep.size : Int) + 1) * ((L.length : Int) - 1) = ((sep.size + 1) * (L.length - 1) : Nat) := by
            rw [Int.natCast_mul, Int.natCast_sub (by omega)]; rfl
          have h4 : (sep.size + 1) * (L.length - 1) ≤ 1001 * 100000 := Nat.mul_le_mul (by omega) (by omega)
          rw [h3]; omega)
        omega
      have hprod : (sep.size : Int) * ((L.length : Int) - 1) = (m : Int) := by
        rw [← HM.out, Int.natCast_mul, Int.natCast_sub (by omega)]; rfl
      have HM0 := Lib.hid (show m = m from rfl)
      clear hs0
      go_enter Tryd.func30, Tryd.ntmps30
      go_wp2_with fail
      clear hq hprod
    all_goals
      go_loopw [5, 41] (fun v5 v41 wr => ∃ (k : Nat) (n : Nat), k ≤ L.length ∧ v41 = .int .i64 k ∧ v5 = .int .i64 n ∧ Hid (n = m + sumB (L.take k)) ∧ n ≤ 1100000000 ∧ wr = w) (fun _ v41 _ => L.length - (intOf v41).toNat)
      case atStart => exact ⟨0, m, by omega, rfl, by first | rfl | (rw [HM0.out]; rfl) | (congr 1; omega), Lib.hid rfl, by omega, rfl⟩
      case' round =>
        obtain ⟨k, n, hk, rfl, rfl, hn, hnb, rfl⟩ := hrel
        by_cases hkl : k < L.length
        case pos =>
          obtain ⟨c, hcl⟩ := some_at hkl
          obtain ⟨bb2, oo2, e2, _, _, hok2, y0⟩ := str_get hl hcl
          obtain ⟨rfl, rfl⟩ : bb = bb2 ∧ oo = oo2 := by injection e2 with e2; injection e2 with h1 h2; exact ⟨h1, h2⟩
          have hkl2 : (k : Int) < (L.length : Int) := by omega
          have HN := Lib.hid (show n + c.size = m + sumB (L.take (k + 1)) by rw [hn.out, sumB_take hcl]; omega)
          have hnb2 : n + c.size ≤ 1100000000 := by have h1 := sumB_take_le L (k + 1); rw [HN.out]; omega
          have hlim : k ≤ 100000 := by omega
          clear hn hcl e2
          go_wp2_with fail
          go_roundw
          case measure => simp [intOf]; omega
          case rel => exact ⟨k + 1, n + c.size, by omega, by go_num, by go_num, HN, hnb2, by first | rfl | trivial⟩
        case' neg =>
          obtain rfl : k = L.length := by omega
          clear hn hkl
          go_wp2_with fail
    all_goals
      clear HM0 hsep0 x0
      have HW := Lib.hid (BK.grow wr n (by omega))
      ((with_reducible refine HW.out.mono ?_); rintro e w1 ⟨rfl, hk1⟩)
      have hb1 := hk1.2.2.1
      have hblt := hk1.lt
      obtain ⟨_, _, e2, _, _, hok2, y0⟩ := str_get (hl.old hb1) HL0.out
      obtain ⟨rfl, rfl⟩ := (by injection e2 with e2; injection e2 with h1 h2; exact ⟨h1, h2⟩ : bb = _ ∧ oo = _)
      simp only [Nat.add_zero] at y0
      have hxz : x.size ≤ sumB L := by
        have h1 := sumB_take HL0.out
        have h2 := sumB_take_le L 1
        simp only [Nat.zero_add, List.take_zero] at h1
        have h3 : sumB ([] : List ByteArray) = 0 := rfl
        omega
      have hxl : x.data.toList.length = x.size := by simp
      go_wp2_with fail
      have HW2 := Lib.hid (hk1.write x (by simp; omega))
      ((with_reducible refine HW2.out.mono ?_); rintro e w2 ⟨rfl, hk2⟩)
      have hcap1 : 1 ≤ cap := by omega
      clear hk1 HW HW2 hb1 hblt e2 y0 hok2
      have hblt2 := hk2.lt
      go_wp2_with fail
      go_loopw [65] (fun v65 wq => ∃ (k : Nat) (acc : List UInt8), k ≤ L.length - 1 ∧ v65 = .int .i64 k ∧ Hid (acc = x.data.toList ++ tailJ sep.data.toList ((L.drop 1).take k)) ∧ BK wr.heap.size wr.heap.size [] wr acc wq) (fun v65 _ => L.length - (intOf v65).toNat)
      case atStart => exact ⟨0, x.data.toList, by omega, rfl, Lib.hid (by simp [tailJ]), by simpa using hk2⟩
      case round =>
        clear hk2 hblt2
        obtain ⟨k, acc, hk, rfl, hacc, hB⟩ := hrel
        have hblt := hB.lt
        have hbb := hB.2.2.1
        have hal := tail_bound (x := x) k (show sep.data.toList.length ≤ 1000 by omega) hlen hsum (by omega)
        rw [← hacc.out] at hal
        by_cases hkl : k < L.length - 1
        · obtain ⟨c, hcl⟩ := some_at (show k + 1 < L.length by omega)
          have hcd : (L.drop 1)[k]? = some c := by rw [List.getElem?_drop, Nat.add_comm]; exact hcl
          obtain ⟨bb2, oo2, e2, _, _, hok2, y0⟩ := str_get (hl.old hbb) hcl
          obtain ⟨rfl, rfl⟩ : bb = bb2 ∧ oo = oo2 := by injection e2 with e2; injection e2 with h1 h2; exact ⟨h1, h2⟩
          rw [show oo + (k + 1) = oo + 1 + k by omega] at y0
          have hkl2 : (k : Int) < (L.length : Int) - 1 := by omega
          have hlim : k ≤ 100000 := by omega
          have HA := Lib.hid (show acc ++ sep.data.toList ++ c.data.toList = x.data.toList ++ tailJ sep.data.toList ((L.drop 1).take (k + 1)) by rw [hacc.out, tailJ_take hcd]; simp)
          have hcz : c.size ≤ 1000000000 := by
            have h1 := sumB_take hcl
            have h2 := sumB_take_le L (k + 1 + 1)
            omega
          clear hcl hcd e2 hacc
          go_wp2_with fail
          have HW2 := Lib.hid (hB.write sep (by omega))
          ((with_reducible refine HW2.out.mono ?_); rintro e w3 ⟨rfl, hB3⟩)
          have hblt3 := hB3.lt
          clear HW2
          go_wp2_with fail
          have HW3 := Lib.hid (hB3.write c (by rw [List.length_append]; omega))
          ((with_reducible refine HW3.out.mono ?_); rintro e w4 ⟨rfl, hB4⟩)
          go_wp2_with fail
          go_roundw
          case measure => simp [intOf]; omega
          case rel => exact ⟨k + 1, _, by omega, by go_num, HA, hB4⟩
        · obtain rfl : k = L.length - 1 := by omega
          have hkl2 : ¬ (((L.length - 1 : Nat) : Int) < (L.length : Int) - 1) := by omega
          have HR := Lib.hid (show joinB sep.data.toList L = acc by rw [HJ.out, hacc.out, List.take_of_length_le (by simp)])
          clear hacc
          go_wp2_with fail
          have HS := Lib.hid hB.string
          ((with_reducible refine HS.out.mono ?_); rintro e w3 ⟨rfl, hb3⟩)
          go_wp2_with fail
          go_ret
          exact ⟨by rw [HR.out]; rfl, hb3⟩
end Go.Proofs.YtclcahkgeaediaaDoor
