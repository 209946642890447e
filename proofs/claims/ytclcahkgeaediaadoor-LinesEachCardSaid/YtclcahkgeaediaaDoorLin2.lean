/- Texts in lines: Split, the program's and the reference's. -/
import Derived.Test.YtclcahkgeaediaaDoorLin1
namespace Go.Proofs.YtclcahkgeaediaaDoor
open Go.RowKit Lift
set_option linter.unusedSimpArgs false
set_option linter.unusedVariables false

theorem splitA_step (s : ByteArray) (h : s.toList ≠ []) : ∃ line rest : ByteArray, (cutB s 10).1 = line ∧ (cutB s 10).2.1 = rest ∧ line.size ≤ s.size ∧ rest.size < s.size ∧
    splitA [] s.data.toList = (if (cutB s 10).2.2 then trimB line 13 else line).data.toList :: splitA [] rest.data.toList := by
  rw [byte_list] at h
  have hz : 0 < s.size := by
    rcases Nat.eq_zero_or_pos s.size with h0 | h0
    · exact absurd (nil_of (by omega)) h
    · exact h0
  rcases idxB s 10 with hi | ⟨i, hi, hlt⟩
  · rw [cutB_none hi]
    refine ⟨_, _, rfl, rfl, Nat.le_refl _, hz, ?_⟩
    rw [splitA_none _ _ (Lib.indexByte_none hi)]
    simp [h, splitA]
  · rw [cutB_some hi]
    obtain ⟨h1, h2⟩ := Lib.indexByte_some hi
    refine ⟨_, _, rfl, rfl, by simp; omega, by simp; omega, ?_⟩
    rw [splitA_some i _ _ h1 h2]
    simp only [if_true, trimB_list, extract_take, extract_drop, List.nil_append]
theorem trimB_size (s : ByteArray) (c : UInt8) : (trimB s c).size ≤ s.size := by
  unfold trimB; split
  · simp
  · exact Nat.le_refl _

set_option maxHeartbeats 1000000 in
set_option maxRecDepth 100000 in
theorem split_any (s0 : ByteArray) (w : World) (hs : s0.size ≤ 100000) : Calls Tryd.prog 18 #[.string s0] w (RowPost Rd.str 9 (linesB [] s0.data.toList) w) := by
  obtain ⟨i0, hi, hz0, hz1, hz2⟩ := str_info0
  have HI := Lib.hid hi; have HZ0 := Lib.hid hz0; have HZ1 := Lib.hid hz1; have HZ2 := Lib.hid hz2
  clear hi hz0 hz1 hz2
  go_enter Tryd.func18, Tryd.ntmps18
  go_wp2_with fail
  go_loopw [0, 3] (fun v0 v3 wr => ∃ (s : ByteArray) (out : List ByteArray), v0 = .string s ∧ s.size ≤ s0.size ∧ out.length + s.size ≤ s0.size ∧ Hid (linesB [] s0.data.toList = out ++ linesB [] s.data.toList) ∧ Own Rd.str (fun _ => True) wr w.heap.size 9 v3 out ∧ Below w.heap.size w wr) (fun v0 _ _ => strLen v0)
  case atStart => exact ⟨s0, [], rfl, Nat.le_refl _, by simp, Lib.hid rfl, Own.nil _ _ _ _ _, Below.refl _ _⟩
  case round =>
    obtain ⟨s, out, rfl, hsz, hol, heq, hO, hb⟩ := hrel
    have hbs := hb.size
    by_cases hne : s.toList = []
    · have hq : linesB [] s.data.toList = [] := by rw [← byte_list, hne]; rfl
      have he := heq.out
      rw [hq, List.append_nil] at he
      have HE := Lib.hid he
      clear he hq
      have hg : s.toList.isEmpty = true := by rw [hne]; rfl
      obtain ⟨ao2, cap2, rfl⟩ := hO.form
      clear hne
      go_wp2_with fail
      go_ret
      rw [HE.out]
      exact ⟨ao2, cap2, rfl, hO, hb⟩
    · obtain ⟨line, rest, e1, e2, hl1, hl2, hst⟩ := splitA_step s hne
      have HC := Lib.hid (cut_any s 10 wr (by omega))
      have hg : s.toList.isEmpty = false := by cases hh : s.toList <;> simp_all
      unfold CutPost at HC
      rw [e1, e2] at HC
      have hfull := heq.out
      cases hq : (cutB s 10).2.2 with
      | true =>
        rw [hq] at HC
        obtain ⟨c, hc⟩ : ∃ c, trimB line 13 = c := ⟨_, rfl⟩
        have HT := Lib.hid (fun wx => trim_any line 13 wx (by omega))
        have hts := trimB_size line 13
        rw [hc] at HT hts
        have HE := Lib.hid (show linesB [] s0.data.toList = (out ++ [c]) ++ linesB [] rest.data.toList by rw [hfull]; unfold linesB; rw [hst, hq, if_pos rfl, hc]; simp [toB_of])
        clear hst hfull hq hc e1 e2 hne
        have hcz : c.size ≤ maxTx := by unfold maxTx; omega
        go_wp2_with fail
        refine HC.out.mono ?_
        rintro e w1 ⟨rfl, hb1⟩
        have hO1 := hO.below hb1
        go_wp2_with fail
        refine (HT.out _).mono ?_
        rintro e w2 ⟨rfl, hb2⟩
        have hO := hO1.below hb2
        have hbz := (chain hb1 hb2).size
        go_wp2_with (first | (at_builtin; refine wpList_push Rd.str rfl _ _ 22 rfl w.heap.size 9 i0 _ 16 Tryd.underlying22 HI.out HZ0.out HZ1.out HZ2.out rfl (by decide) (fun _ => True) _ out rfl hO [.string c] c _ rfl (by simp) (str_rel _ _ c hcz) (by simp [Value.oneCell']) (by unfold maxLen; omega) (by omega) (by first | omega | (simp; omega)) ?_; intro v2 w2 hO2 hK2 hw2))
        have hB2 := hO.kbelow (B := w.heap.size) (by omega) (by omega) hK2
        go_roundw
        case measure => simp [strLen]; omega
        case rel => exact ⟨rest, out ++ [c], rfl, by omega, by simp; omega, HE, hO2, (chain hb (chain hb1 hb2)).trans hB2⟩
      | false =>
        rw [hq] at HC
        obtain ⟨c, hc⟩ : ∃ c, line = c := ⟨_, rfl⟩
        have HE := Lib.hid (show linesB [] s0.data.toList = (out ++ [c]) ++ linesB [] rest.data.toList by rw [hfull]; unfold linesB; rw [hst, hq, if_neg (by simp), hc]; simp [toB_of])
        clear hst hfull hq e1 e2 hne
        subst hc
        have hcz : line.size ≤ maxTx := by unfold maxTx; omega
        go_wp2_with fail
        refine HC.out.mono ?_
        rintro e w1 ⟨rfl, hb1⟩
        obtain ⟨c, hc⟩ : ∃ c, line = c := ⟨_, rfl⟩
        subst hc
        have hO := hO.below hb1
        have hbz := hb1.size
        go_wp2_with (first | (at_builtin; refine wpList_push Rd.str rfl _ _ 22 rfl w.heap.size 9 i0 _ 16 Tryd.underlying22 HI.out HZ0.out HZ1.out HZ2.out rfl (by decide) (fun _ => True) _ out rfl hO [.string line] line _ rfl (by simp) (str_rel _ _ line hcz) (by simp [Value.oneCell']) (by unfold maxLen; omega) (by omega) (by first | omega | (simp; omega)) ?_; intro v2 w2 hO2 hK2 hw2))
        have hB2 := hO.kbelow (B := w.heap.size) (by omega) (by omega) hK2
        go_roundw
        case measure => simp [strLen]; omega
        case rel => exact ⟨rest, out ++ [line], rfl, by omega, by simp; omega, HE, hO2, (chain hb hb1).trans hB2⟩
end Go.Proofs.YtclcahkgeaediaaDoor
