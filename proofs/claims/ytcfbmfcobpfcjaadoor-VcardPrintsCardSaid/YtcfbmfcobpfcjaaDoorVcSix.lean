/- Letters of six bits, piece by piece: plain (no program in sight). -/
import Derived.Test.YtcfbmfcobpfcjaaDoorVcEnc
import Derived.Test.YtcfbmfcobpfcjaaDoorVcLines
namespace Go.Proofs.YtcfbmfcobpfcjaaDoor
open Go.RowKit Lift
set_option linter.unusedSimpArgs false
set_option linter.unusedVariables false

theorem ext_list (s : ByteArray) (a b : Nat) : (s.extract a b).data.toList = (s.data.toList.drop a).take (b - a) := by
  rw [ByteArray.data_extract]
  simp [Array.toList_extract, List.extract_eq_take_drop]
theorem bN_drop (s : ByteArray) (m i : Nat) : bN (s.extract m s.size) i = bN s (m + i) := by
  unfold bN
  rw [ext_list, List.take_of_length_le (by simp), List.getD_eq_getElem?_getD, List.getElem?_drop, ← List.getD_eq_getElem?_getD]
theorem bN_take (s : ByteArray) (m i : Nat) : bN (s.extract 0 m) i = if i < m then bN s i else 0 := by
  unfold bN
  rw [ext_list, List.drop_zero, Nat.sub_zero, List.getD_eq_getElem?_getD, List.getElem?_take]
  split
  · rw [← List.getD_eq_getElem?_getD]
  · rfl
theorem bN_out (s : ByteArray) (i : Nat) (h : s.size ≤ i) : bN s i = 0 := by
  unfold bN
  rw [List.getD_eq_getElem?_getD, List.getElem?_eq_none (by simpa using h)]; rfl
theorem sixV_take (s : ByteArray) (k : Nat) (hk : k < 4) : sixV s 0 k = sixV (s.extract 0 (min 3 s.size)) 0 k := by
  have hsz : (s.extract 0 (min 3 s.size)).size = min 3 s.size := by rw [ByteArray.size_extract]; omega
  have hb : ∀ i, i < 3 → bN (s.extract 0 (min 3 s.size)) i = bN s i := fun i hi => by
    rw [bN_take]
    split
    · rfl
    · rw [bN_out s i (by omega)]
  have hw : wordN (s.extract 0 (min 3 s.size)) 0 = wordN s 0 := by
    unfold wordN; rw [hb 0 (by omega), hb (0 + 1) (by omega), hb (0 + 2) (by omega)]
  unfold sixV sextN
  rw [hw, hsz]
  by_cases h : 8 * s.size ≤ 8 * 0 + 6 * k
  · rw [if_pos h, if_pos (by omega)]
  · rw [if_neg h, if_neg (by omega)]
theorem sixV_drop (s : ByteArray) (h : 3 ≤ s.size) (i k : Nat) : sixV s (3 + i) k = sixV (s.extract 3 s.size) i k := by
  have hsz : (s.extract 3 s.size).size = s.size - 3 := by rw [ByteArray.size_extract]; omega
  have hw : wordN (s.extract 3 s.size) i = wordN s (3 + i) := by
    unfold wordN; rw [bN_drop, bN_drop, bN_drop]; rfl
  unfold sixV sextN
  rw [hw, hsz]
  by_cases h2 : 8 * s.size ≤ 8 * (3 + i) + 6 * k
  · rw [if_pos h2, if_pos (by omega)]
  · rw [if_neg h2, if_neg (by omega)]
theorem grp_take (s : ByteArray) : grp s 0 = grp (s.extract 0 (min 3 s.size)) 0 := by
  unfold grp
  rw [sixV_take s 0 (by omega), sixV_take s 1 (by omega), sixV_take s 2 (by omega), sixV_take s 3 (by omega)]
theorem grp_drop (s : ByteArray) (h : 3 ≤ s.size) (i : Nat) : grp s (3 + i) = grp (s.extract 3 s.size) i := by
  unfold grp
  rw [sixV_drop s h, sixV_drop s h, sixV_drop s h, sixV_drop s h]
theorem grps_cons (s : ByteArray) (n : Nat) : grps s (n + 1) = grp s 0 ++ ((List.range n).map (fun j => grp s (3 * (j + 1)))).flatten := by
  unfold grps
  rw [List.range_succ_eq_map, List.map_cons, List.flatten_cons, List.map_map]; rfl
/-- Each piece of three bytes has its four letters. -/
theorem six_pieces : ∀ (f : Nat) (s : ByteArray), s.size ≤ f → grps s ((s.size + 2) / 3) = ((chunks 3 s).map (fun p => grp p 0)).flatten
  | 0, s, h => by
    rw [chunks_nil 3 s (by omega), show (s.size + 2) / 3 = 0 by omega]; rfl
  | f + 1, s, h => by
    by_cases h0 : s.size = 0
    · rw [chunks_nil 3 s h0, show (s.size + 2) / 3 = 0 by omega]; rfl
    · have hsz : (s.extract (min 3 s.size) s.size).size = s.size - min 3 s.size := by rw [ByteArray.size_extract]; omega
      have ih := six_pieces f (s.extract (min 3 s.size) s.size) (by rw [hsz]; omega)
      rw [hsz] at ih
      rw [chunks_step (wd := 3) (by omega) s h0, List.map_cons, List.flatten_cons, ← grp_take s, ← ih]
      rw [show (s.size + 2) / 3 = (s.size - min 3 s.size + 2) / 3 + 1 by omega, grps_cons]
      refine congrArg (fun z => grp s 0 ++ z) ?_
      unfold grps
      refine congrArg List.flatten ?_
      refine List.map_congr_left fun j hj => ?_
      have hj2 : j < (s.size - min 3 s.size + 2) / 3 := by simpa using hj
      have h3 : 3 ≤ s.size := by omega
      rw [show 3 * (j + 1) = 3 + 3 * j by omega, grp_drop s h3, Nat.min_eq_left h3]
theorem sixB_pieces (s : ByteArray) : sixB s = ⟨(((chunks 3 s).map (fun p => grp p 0)).flatten).toArray⟩ := by
  unfold sixB; rw [six_pieces s.size s (Nat.le_refl _)]
end Go.Proofs.YtcfbmfcobpfcjaaDoor
