/- A line in lines that are not too long: the document's Fold. -/
import Derived.Test.YtcfbmfcobpfcjaaDoorFold1
namespace Go.Proofs.YtcfbmfcobpfcjaaDoor
open Go.RowKit Lift
set_option linter.unusedSimpArgs false
set_option linter.unusedVariables false

set_option maxHeartbeats 8000000 in
set_option maxRecDepth 100000 in
theorem fold_ref (s : ByteArray) (width : Int) (w : World) (hs : s.size ≤ 100000) (hw : Wf width) :
    Calls Tryd.prog 31 #[.string s, .int .i64 width] w (RowPost Rd.str 9 (foldW s width) w) := by
  obtain ⟨i0, hi, hz0, hz1, hz2⟩ := str_info0
  have HI := Lib.hid hi; have HZ0 := Lib.hid hz0; have HZ1 := Lib.hid hz1; have HZ2 := Lib.hid hz2
  clear hi hz0 hz1 hz2
  obtain ⟨W, hW⟩ : ∃ W : Nat, max width 2 = (W : Int) := ⟨(max width 2).toNat, by omega⟩
  have hwf := int_i64 hw
  have hW1 : (W : Int) ≤ 9223372036854775807 := by omega
  have hW2 : 2 ≤ W := by omega
  have HF := Lib.hid (show foldW s width = [] ++ foldS W s.size s by unfold foldW; rw [hW]; rfl)
  clear hwf hw
  go_enter Tryd.func31, Tryd.ntmps31
  go_wp2_with fail
  go_loopw [0, 5] (fun v0 v5 wr => ∃ (f : Nat) (x : ByteArray) (acc : List ByteArray), v0 = .string x ∧ x.size ≤ f ∧ acc.length + f ≤ s.size ∧ Hid (foldW s width = acc ++ foldS W f x) ∧ Own Rd.str (fun _ => True) wr w.heap.size 9 v5 acc ∧ Below w.heap.size w wr) (fun v0 _ _ => match v0 with | .string x => x.size | _ => 0)
  case atStart => exact ⟨s.size, s, [], rfl, by omega, by simp, HF, Own.nil _ _ _ _ _, Below.refl _ _⟩
  case round =>
    clear HF
    obtain ⟨f, x, acc, rfl, hxf, hacc, HF, hO, hb⟩ := hrel
    have hz := bsize hb
    have hxs : x.size ≤ 100000 := by omega
    obtain ⟨ao, cap, rfl⟩ := hO.form
    by_cases hlt : W < x.size
    · have hlt2 : (W : Int) < (x.size : Int) := by omega
      have HB := Lib.hid (cut_lastB hlt)
      have hcl := cutAt_lt hlt
      obtain ⟨wo, hwo⟩ : ∃ wo : World, wo = wr := ⟨_, rfl⟩
      subst hwo
      go_wp2_with fail
      go_loopw [6, 7] (fun v6 v7 wq => ∃ i : Nat, 1 ≤ i ∧ i ≤ W + 1 ∧ v6 = .int .i64 (lastB x i) ∧ v7 = .int .i64 i ∧ wq = wo) (fun _ v7 _ => W + 1 - (intOf v7).toNat)
      case atStart => exact ⟨1, by omega, by omega, rfl, rfl, rfl⟩
      case round =>
        obtain ⟨i, h1, hiW, rfl, rfl, rfl⟩ := hrel
        by_cases hi : i < W + 1
        · have hi2 : (i : Int) ≤ (W : Int) := by omega
          have HBl := Lib.hid (fun w => blank_at x i w hxs (by omega))
          have hlim : i ≤ 100000 := by omega
          cases hbl : blAt x i with
          | true =>
            rw [hbl] at HBl
            have HL := Lib.hid (show lastB x (i + 1) = i by unfold lastB; rw [if_pos ⟨h1, hbl⟩])
            clear hbl
            go_wp2_with fail
            refine (HBl.out _).mono ?_
            rintro e w1 ⟨rfl, rfl⟩
            go_wp2_with fail
            go_roundw
            case measure => simp [intOf]; omega
            case rel => exact ⟨i + 1, by omega, by omega, by rw [HL.out], by go_num, by first | rfl | trivial⟩
          | false =>
            rw [hbl] at HBl
            have HL := Lib.hid (show lastB x (i + 1) = lastB x i by rw [lastB, if_neg (by rw [hbl]; simp)])
            clear hbl
            go_wp2_with fail
            refine (HBl.out _).mono ?_
            rintro e w1 ⟨rfl, rfl⟩
            go_wp2_with fail
            go_roundw
            case measure => simp [intOf]; omega
            case rel => exact ⟨i + 1, by omega, by omega, by rw [HL.out], by go_num, by first | rfl | trivial⟩
        · obtain rfl : i = W + 1 := by omega
          have hi2 : ¬ ((W + 1 : Nat) : Int) ≤ (W : Int) := by omega
          obtain ⟨q, hq⟩ : ∃ q, cutAt W x = q := ⟨_, rfl⟩
          rw [hq] at HB hcl
          obtain ⟨m, hm⟩ : ∃ m, lastB x (W + 1) = m := ⟨_, rfl⟩
          rw [hm] at HB ⊢
          clear hm
          rcases Nat.eq_zero_or_pos m with rfl | hm0
          · have HR := Lib.hid (show foldW s width = acc ++ [x] by rw [HF.out, foldS_stop (by rw [hq]; have := HB.out; omega)])
            have hcz : x.size ≤ maxTx := by unfold maxTx; omega
            clear HF hq HB
            go_wp2_with (first | (at_builtin; refine wpList_push Rd.str rfl _ _ 33 rfl w.heap.size 9 i0 _ 16 Tryd.underlying33 HI.out HZ0.out HZ1.out HZ2.out rfl (by decide) (fun _ => True) _ acc rfl hO [.string x] x _ rfl (by simp) (str_rel _ _ x hcz) (by simp [Value.oneCell']) (by unfold maxLen; omega) (by omega) (by first | omega | (simp; omega)) ?_; intro v2 w2 hO2 hK2 hw2; obtain ⟨ao2, cap2, rfl⟩ := hO2.form))
            go_ret
            exact ⟨ao2, cap2, by rw [HR.out, List.length_append]; rfl, by rw [HR.out]; exact hO2, hb.trans (hO.kbelow (Nat.le_refl _) hz hK2)⟩
          · have hmW : m ≤ W := by have := HB.out; omega
            cases f with
            | zero => omega
            | succ f =>
            have HR := Lib.hid (show foldW s width = (acc ++ [x.extract 0 m]) ++ foldS W f (x.extract m x.size) by
              have := HB.out
              obtain ⟨n, rfl⟩ : ∃ n, m = n + 1 := ⟨m - 1, by omega⟩
              rw [HF.out, foldS_go hlt (n := n) (by omega)]; simp)
            have hz2 : (x.extract 0 m).size = m := by rw [ByteArray.size_extract]; omega
            have hz3 : (x.extract m x.size).size = x.size - m := by rw [ByteArray.size_extract]; omega
            have hz4 : m ≤ 100000 := by omega
            have hn0 : ((m : Int) == 0) = false := by simp; omega
            clear HF hq HB
            obtain ⟨c, hc⟩ : ∃ c, x.extract 0 m = c := ⟨_, rfl⟩
            have hcz : c.size ≤ maxTx := by rw [← hc]; unfold maxTx; omega
            rw [hc] at HR
            have hxn : m ≤ x.size := by omega
            go_wp2_with (first | (at_builtin; refine wpList_push Rd.str rfl _ _ 33 rfl w.heap.size 9 i0 _ 16 Tryd.underlying33 HI.out HZ0.out HZ1.out HZ2.out rfl (by decide) (fun _ => True) _ acc rfl hO [.string c] c _ rfl (by simp) (str_rel _ _ c hcz) (by simp [Value.oneCell']) (by unfold maxLen; omega) (by omega) (by first | omega | (simp; omega)) ?_; intro v2 w2 hO2 hK2 hw2; obtain ⟨ao2, cap2, rfl⟩ := hO2.form))
            go_roundw
            case measure => simp only; omega
            case rel => exact ⟨f, _, acc ++ [c], rfl, by omega, by simp; omega, HR, by have h := hO2; rw [List.length_append, List.length_singleton] at h; exact h, hb.trans (hO.kbelow (Nat.le_refl _) hz hK2)⟩
    · have HR := Lib.hid (show foldW s width = acc ++ [x] by rw [HF.out, foldS_stop (by omega)])
      have hlt2 : ¬ (W : Int) < (x.size : Int) := by omega
      have hcz : x.size ≤ maxTx := by unfold maxTx; omega
      clear HF
      go_wp2_with (first | (at_builtin; refine wpList_push Rd.str rfl _ _ 33 rfl w.heap.size 9 i0 _ 16 Tryd.underlying33 HI.out HZ0.out HZ1.out HZ2.out rfl (by decide) (fun _ => True) _ acc rfl hO [.string x] x _ rfl (by simp) (str_rel _ _ x hcz) (by simp [Value.oneCell']) (by unfold maxLen; omega) (by omega) (by first | omega | (simp; omega)) ?_; intro v2 w2 hO2 hK2 hw2; obtain ⟨ao2, cap2, rfl⟩ := hO2.form))
      go_ret
      exact ⟨ao2, cap2, by rw [HR.out, List.length_append]; rfl, by rw [HR.out]; exact hO2, hb.trans (hO.kbelow (Nat.le_refl _) hz hK2)⟩
end Go.Proofs.YtcfbmfcobpfcjaaDoor
