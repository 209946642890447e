/- Texts in lines: the reference's Split. -/
import Derived.Test.YtclcahkgeaediaaDoorLin2
namespace Go.Proofs.YtclcahkgeaediaaDoor
open Go.RowKit Lift
set_option linter.unusedSimpArgs false
set_option linter.unusedVariables false

theorem extract_one (s : ByteArray) (k : Nat) (h : k < s.size) : (s.extract k (k + 1)).data.toList = [s.data.toList.getD k 0] := by
  have := bytes_drop s k h
  simp only [ByteArray.data_extract, Array.toList_extract, List.extract_eq_take_drop]
  rw [show k + 1 - k = 1 by omega, this]; rfl
theorem append_list (a b : ByteArray) : (a ++ b).data.toList = a.data.toList ++ b.data.toList := by simp [ByteArray.data_append]
theorem getD_at (s : ByteArray) (k : Nat) (h : k < s.size) : s.data.toList.getD k 0 = s[k] := by
  rw [List.getD_eq_getElem?_getD, List.getElem?_eq_getElem (by simpa using h)]
  rfl
theorem chop_ne {t : List UInt8} (h : t.getLast? ≠ some 13) : chop t = t := by unfold chop; rw [if_neg h]

theorem u8_is (c d : UInt8) : ((c.toNat : Int) == (d.toNat : Int)) = decide (c = d) := by
  rw [Bool.eq_iff_iff]; simp [← UInt8.toNat_inj]; omega
theorem linesB_cons (t : List UInt8) (c : UInt8) (r : List UInt8) : linesB t (c :: r) = if c = 10 then toB (chop t) :: linesB [] r else linesB (t ++ [c]) r := by
  unfold linesB; rw [splitA]; split <;> simp
theorem linesB_nil (t : List UInt8) : linesB t [] = if t = [] then [] else [toB t] := by
  unfold linesB; rw [splitA]; split <;> simp
theorem toB_chop (t : ByteArray) (h : 0 < t.size) : toB (chop t.data.toList) = if t[t.size - 1] = 13 then t.extract 0 (t.size - 1) else t := by
  rw [← trimB_list, toB_of]; unfold trimB
  rw [last_at t h, getD_at t (t.size - 1) (by omega)]
  simp

set_option maxHeartbeats 1000000 in
set_option maxRecDepth 100000 in
theorem split_ref (s : ByteArray) (w : World) (hs : s.size ≤ 100000) : Calls Tryd.prog 13 #[.string s] w (RowPost Rd.str 9 (linesB [] s.data.toList) w) := by
  obtain ⟨i0, hi, hz0, hz1, hz2⟩ := str_info0
  have HI := Lib.hid hi; have HZ0 := Lib.hid hz0; have HZ1 := Lib.hid hz1; have HZ2 := Lib.hid hz2
  clear hi hz0 hz1 hz2
  go_enter Tryd.func13, Tryd.ntmps13
  go_wp2_with fail
  go_loopw [3, 4, 5] (fun v3 v4 v5 wr => ∃ (k : Nat) (t : ByteArray) (out : List ByteArray), k ≤ s.size ∧ v5 = .int .i64 k ∧ v4 = .string t ∧ t.size ≤ k ∧ out.length ≤ k ∧ Hid (linesB [] s.data.toList = out ++ linesB t.data.toList (s.data.toList.drop k)) ∧ Own Rd.str (fun _ => True) wr w.heap.size 9 v3 out ∧ Below w.heap.size w wr) (fun _ _ v5 _ => s.size - (intOf v5).toNat)
  case atStart => exact ⟨0, ByteArray.empty, [], by omega, rfl, by first | rfl | simp, by simp, by simp, Lib.hid rfl, Own.nil _ _ _ _ _, Below.refl _ _⟩
  case round =>
    obtain ⟨k, t, out, hk, rfl, rfl, htk, hok, heq, hO, hb⟩ := hrel
    have hbs := hb.size
    by_cases hks : k < s.size
    · have hfull := heq.out
      rw [bytes_drop s k hks, linesB_cons, getD_at s k hks] at hfull
      have hlim : k ≤ 100000 := by omega
      by_cases hc : s[k] = 10
      · rw [if_pos hc] at hfull
        have hq : ((s[k].toNat : Int) != 10) = false := by rw [hc]; rfl
        by_cases ht : t.toList = []
        · have e1 : t.toList.isEmpty = true := by rw [ht]; rfl
          have htn : t.data.toList = [] := by rw [← byte_list]; exact ht
          have HE := Lib.hid (show linesB [] s.data.toList = (out ++ [t]) ++ linesB (⟨#[]⟩ : ByteArray).data.toList (s.data.toList.drop (k + 1)) by
            rw [hfull, htn, show toB (chop []) = t from (str_ext (by rw [byte_list, byte_list, htn]; rfl) : toB (chop []) = t)]; simp)
          clear hfull hc ht htn
          have hcz : t.size ≤ maxTx := by unfold maxTx; omega
          go_wp2_with (first | (at_builtin; refine wpList_push Rd.str rfl _ _ 22 rfl w.heap.size 9 i0 _ 16 Tryd.underlying22 HI.out HZ0.out HZ1.out HZ2.out rfl (by decide) (fun _ => True) _ out rfl hO [.string t] t _ rfl (by simp) (str_rel _ _ t hcz) (by simp [Value.oneCell']) (by unfold maxLen; omega) (by omega) (by first | omega | (simp; omega)) ?_; intro v2 w2 hO2 hK2 hw2))
          have hB2 := hO.kbelow (B := w.heap.size) (by omega) (by omega) hK2
          go_roundw
          case measure => simp [intOf]; omega
          case rel => exact ⟨k + 1, ⟨#[]⟩, out ++ [t], by omega, by go_num, rfl, by show 0 ≤ k + 1; omega, (by first | omega | (simp; done) | (simp; omega)), HE, hO2, hb.trans hB2⟩
        · have e1 : t.toList.isEmpty = false := by cases hh : t.toList <;> simp_all
          have ht0 : 0 < t.size := by
            rcases Nat.eq_zero_or_pos t.size with h0 | h0
            · exact absurd (by rw [byte_list]; exact nil_of (by omega)) ht
            · exact h0
          have hts : ((t.size : Int) - 1) = ((t.size - 1 : Nat) : Int) := by omega
          have hch := toB_chop t ht0
          have hj0 : (0 : Int) ≤ (t.size : Int) - 1 := by omega
          have hj1 : (t.size : Int) - 1 < (t.size : Int) := by omega
          have hj2 : ((t.size : Int) - 1).toNat = t.size - 1 := by omega
          have hj3 : t.size - 1 < t.size := by omega
          by_cases h13 : t[t.size - 1] = 13
          · have h132 : (((t[t.size - 1]).toNat : Int) == 13) = true := by rw [h13]; rfl
            rw [if_pos h13] at hch
            have HE := Lib.hid (show linesB [] s.data.toList = (out ++ [t.extract 0 (t.size - 1)]) ++ linesB (⟨#[]⟩ : ByteArray).data.toList (s.data.toList.drop (k + 1)) by
              rw [hfull, hch]; simp)
            clear hfull hc ht h13 hch
            have hcz : (t.extract 0 (t.size - 1)).size ≤ maxTx := by unfold maxTx; first | (simp; done) | (simp; omega)
            go_wp2_with (first | (at_builtin; refine wpList_push Rd.str rfl _ _ 22 rfl w.heap.size 9 i0 _ 16 Tryd.underlying22 HI.out HZ0.out HZ1.out HZ2.out rfl (by decide) (fun _ => True) _ out rfl hO [.string (t.extract 0 (t.size - 1))] (t.extract 0 (t.size - 1)) _ rfl (by simp) (str_rel _ _ (t.extract 0 (t.size - 1)) hcz) (by simp [Value.oneCell']) (by unfold maxLen; omega) (by omega) (by first | omega | (simp; omega)) ?_; intro v2 w2 hO2 hK2 hw2))
            have hB2 := hO.kbelow (B := w.heap.size) (by omega) (by omega) hK2
            go_roundw
            case measure => simp [intOf]; omega
            case rel => exact ⟨k + 1, ⟨#[]⟩, out ++ [(t.extract 0 (t.size - 1))], by omega, by go_num, rfl, by show 0 ≤ k + 1; omega, (by first | omega | (simp; done) | (simp; omega)), HE, hO2, hb.trans hB2⟩
          · have h132 : (((t[t.size - 1]).toNat : Int) == 13) = false := by rw [show (13:Int) = (((13:UInt8).toNat : Nat) : Int) from rfl, u8_is]; simpa using h13
            rw [if_neg h13] at hch
            have HE := Lib.hid (show linesB [] s.data.toList = (out ++ [t]) ++ linesB (⟨#[]⟩ : ByteArray).data.toList (s.data.toList.drop (k + 1)) by
              rw [hfull, hch]; simp)
            clear hfull hc ht h13 hch
            have hcz : t.size ≤ maxTx := by unfold maxTx; omega
            go_wp2_with (first | (at_builtin; refine wpList_push Rd.str rfl _ _ 22 rfl w.heap.size 9 i0 _ 16 Tryd.underlying22 HI.out HZ0.out HZ1.out HZ2.out rfl (by decide) (fun _ => True) _ out rfl hO [.string t] t _ rfl (by simp) (str_rel _ _ t hcz) (by simp [Value.oneCell']) (by unfold maxLen; omega) (by omega) (by first | omega | (simp; omega)) ?_; intro v2 w2 hO2 hK2 hw2))
            have hB2 := hO.kbelow (B := w.heap.size) (by omega) (by omega) hK2
            go_roundw
            case measure => simp [intOf]; omega
            case rel => exact ⟨k + 1, ⟨#[]⟩, out ++ [t], by omega, by go_num, rfl, by show 0 ≤ k + 1; omega, (by first | omega | (simp; done) | (simp; omega)), HE, hO2, hb.trans hB2⟩
      · rw [if_neg hc] at hfull
        have hq : ((s[k].toNat : Int) != 10) = true := by rw [bne, show (10:Int) = (((10:UInt8).toNat : Nat) : Int) from rfl, u8_is]; simpa using hc
        have HE := Lib.hid (show linesB [] s.data.toList = out ++ linesB (t ++ s.extract k (k + 1)).data.toList (s.data.toList.drop (k + 1)) by
          rw [hfull, append_list, extract_one s k hks, getD_at s k hks])
        clear hfull hc
        go_wp2_with fail
        go_roundw
        case measure => simp [intOf]; omega
        case rel => exact ⟨k + 1, _, out, by omega, by go_num, rfl, (by first | omega | (simp; done) | (simp; omega)), by omega, HE, hO, hb⟩
    · obtain rfl : k = s.size := by omega
      have hfull := heq.out
      rw [List.drop_of_length_le (by simp), linesB_nil] at hfull
      by_cases ht : t.toList = []
      · have e1 : t.toList.isEmpty = true := by rw [ht]; rfl
        have htn : t.data.toList = [] := by rw [← byte_list]; exact ht
        rw [if_pos htn, List.append_nil] at hfull
        have HE := Lib.hid hfull
        clear hfull htn ht
        obtain ⟨ao2, cap2, rfl⟩ := hO.form
        go_wp2_with fail
        go_ret
        rw [HE.out]
        exact ⟨ao2, cap2, rfl, hO, hb⟩
      · have e1 : t.toList.isEmpty = false := by cases hh : t.toList <;> simp_all
        have htn : t.data.toList ≠ [] := by rw [← byte_list]; exact ht
        rw [if_neg htn, toB_of] at hfull
        have HE := Lib.hid hfull
        clear hfull htn ht
        have hcz : t.size ≤ maxTx := by unfold maxTx; omega
        go_wp2_with (first | (at_builtin; refine wpList_push Rd.str rfl _ _ 22 rfl w.heap.size 9 i0 _ 16 Tryd.underlying22 HI.out HZ0.out HZ1.out HZ2.out rfl (by decide) (fun _ => True) _ out rfl hO [.string t] t _ rfl (by simp) (str_rel _ _ t hcz) (by simp [Value.oneCell']) (by unfold maxLen; omega) (by omega) (by first | omega | (simp; omega)) ?_; intro v2 w2 hO2 hK2 hw2; obtain ⟨ao2, cap2, rfl⟩ := hO2.form; clear hw2))
        have hB2 := hO.kbelow (B := w.heap.size) (by omega) (by omega) hK2
        go_ret
        rw [HE.out]
        exact ⟨ao2, cap2, by simp, hO2, hb.trans hB2⟩
end Go.Proofs.YtclcahkgeaediaaDoor
