/- Letters, and whether a text is right: the document's. -/
import Derived.Test.YtcfbmfcobpfcjaaDoorVcOne
import Derived.Test.YtcfbmfcobpfcjaaDoorVcVal
namespace Go.Proofs.YtcfbmfcobpfcjaaDoor
open Go.RowKit Lift
set_option linter.unusedSimpArgs false
set_option linter.unusedVariables false

theorem wid_le (s : ByteArray) : widR s ≤ s.size := by
  unfold widR
  split
  · omega
  · unfold widN; (repeat' split) <;> omega
def lenOf : Value → Nat
  | .string r => r.size
  | _ => 0
theorem i32_wf (x : Nat) (h : x ≤ 1114111) : (Lit.int .i32 (x : Int)).wf = true := by
  simp [Lit.wf, IntKind.min, IntKind.max, IntKind.signed, IntKind.bits]; omega
theorem rune_info : (Tryd.prog.info? 21).map (fun i => (i.zero, i.size, i.bytes)) = some (some (.int .i32 0), 1, 4) := by kernel_rfl
set_option maxHeartbeats 4000000 in
set_option maxRecDepth 100000 in
theorem letters_ref (s : ByteArray) (hs : s.size ≤ 100000) (w : World) : Calls Tryd.prog 49 #[.string s] w (fun e w' => ∃ v, e = .returned (.tuple #[v, .bool (isValid s)]) ∧ Below w.heap.size w w') := by
  obtain ⟨i0, hi, hz0, hz1, hz2⟩ := info_parts rune_info
  have HI := Lib.hid hi; have HZ0 := Lib.hid hz0; have HZ1 := Lib.hid hz1; have HZ2 := Lib.hid hz2
  clear hi hz0 hz1 hz2
  go_enter Tryd.func49, Tryd.ntmps49
  go_wp2_with fail
  go_loopw [0, 4, 5, 6] (fun v0 v4 v5 v6 wr => ∃ (r : ByteArray) (ls : List Int), v0 = .string r ∧ ls.length + r.size ≤ s.size ∧ Hid (isValid s = isValid r) ∧ Lift.Own (Rd.int .i32) (fun _ => True) wr w.heap.size 21 v4 ls ∧ Below w.heap.size w wr) (fun v0 _ _ _ _ => lenOf v0)
  case atStart => exact ⟨s, [], rfl, by simp, Lib.hid rfl, Lift.Own.nil _ _ _ _ _, Below.refl _ _⟩
  case round =>
    obtain ⟨r, ls, rfl, hsz, hV, hO, hb⟩ := hrel
    obtain ⟨ao, cap, rfl⟩ := hO.form
    have hE := empty_list r
    by_cases h0 : r.size = 0
    · have hn : r.toList = [] := by rw [decide_eq_true h0] at hE; simpa using hE
      have he : (r.toList != ([] : List UInt8)) = false := by simpa using hn
      have he2 : r.toList.isEmpty = true := by rw [hn]; rfl
      have HV := Lib.hid (hV.out.trans (isValid_nil r h0))
      clear hE hn h0 hV
      go_wp2_with fail
      go_ret2
      exact ⟨_, by rw [HV.out]; rfl, hb⟩
    · have hn : r.toList ≠ [] := by rw [decide_eq_false h0] at hE; simpa using hE
      have he : (r.toList != ([] : List UInt8)) = true := by simpa using hn
      have he2 : r.toList.isEmpty = false := by simpa using hn
      have HO := Lib.hid (one_ref r (by unfold maxTx; omega) wr)
      have HST := Lib.hid (isValid_step r h0)
      have hwl := wid_le r
      have hpos : 0 < r.size := by omega
      obtain ⟨n, hn2⟩ : ∃ n, widR r = n := ⟨_, rfl⟩
      rw [hn2] at HO HST hwl
      clear hE hn h0 hn2
      go_wp2_with fail
      refine HO.out.mono ?_
      rintro e w2 ⟨⟨x, hx, rfl⟩, he2w⟩
      subst he2w
      by_cases hn0 : n = 0
      · have hni : ((n : Int) == 0) = true := by simp [hn0]
        have HV := Lib.hid (hV.out.trans (HST.out.trans (if_pos hn0)))
        clear hn0 hV HST
        go_wp2_with fail
        go_ret2
        exact ⟨_, by rw [HV.out]; rfl, hb⟩
      · have hni : ((n : Int) == 0) = false := by simpa using hn0
        have HV := Lib.hid (hV.out.trans (HST.out.trans (if_neg hn0)))
        have hnp : 0 < n := by omega
        have hwr : IntKind.i32.wrap (x : Int) = (x : Int) := by rw [IntKind.wrap_i32]; omega
        have hnz : (n : Int) ≤ (r.size : Int) := by omega
        have hsz2 : (r.extract n r.size).size = r.size - n := by rw [ByteArray.size_extract]; omega
        have HSZ := Lib.hid hsz2
        have hB : w.heap.size ≤ w2.heap.size := hb.size
        clear hn0 hV HST hsz2
        go_wp2_with (first
          | (at_builtin; refine wpList_push (Rd.int .i32) rfl _ _ 68 rfl w.heap.size 21 i0 _ 4 Tryd.underlying68 HI.out HZ0.out HZ1.out HZ2.out rfl (by decide) (fun _ => True) _ ls rfl hO [.int .i32 x] (x : Int) _ rfl (by simp) ⟨rfl, i32_wf x hx⟩ (by simp [Value.oneCell']) (by unfold maxLen; omega) (by omega) (by omega) ?_; intro v4 w4 hO4 hK4 hw4; obtain ⟨ao4, cap4, rfl⟩ := hO4.form)
          | fail)
        have hbw : Below w.heap.size w w4 := hb.trans (hK4.below hB (fun k hk => (hO.lt k hk.symm).1))
        go_roundw
        case measure => simp only [lenOf]; rw [HSZ.out]; omega
        case rel => exact ⟨r.extract n r.size, ls ++ [(x : Int)], rfl, by rw [HSZ.out, List.length_append]; simp only [List.length_singleton]; omega, HV, by simpa using hO4, hbw⟩
theorem dvalid_any (s : ByteArray) (hs : s.size ≤ 100000) (w : World) : Calls Tryd.prog 26 #[.string s] w (BelowPost (.bool (isValid s)) w) := by
  have HL := Lib.hid (letters_ref s hs w)
  go_enter Tryd.func26, Tryd.ntmps26
  go_wp2_with fail
  refine HL.out.mono ?_
  rintro e w2 ⟨v, rfl, hb⟩
  go_wp2_with fail
  go_ret
  exact ⟨rfl, hb⟩
end Go.Proofs.YtcfbmfcobpfcjaaDoor
