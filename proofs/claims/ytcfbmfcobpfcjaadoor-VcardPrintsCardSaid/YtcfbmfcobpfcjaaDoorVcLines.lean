/- Letters in lines of so many: the document's Lines. -/
import Derived.Test.YtcfbmfcobpfcjaaDoorVcChk
namespace Go.Proofs.YtcfbmfcobpfcjaaDoor
open Go.RowKit Lift
set_option linter.unusedSimpArgs false
set_option linter.unusedVariables false

def chunkF (wd : Nat) : Nat → ByteArray → List ByteArray
  | 0, _ => []
  | f + 1, r => if r.size = 0 then [] else r.extract 0 (min wd r.size) :: chunkF wd f (r.extract (min wd r.size) r.size)
def chunks (wd : Nat) (s : ByteArray) : List ByteArray := chunkF wd s.size s
theorem chunkF_fuel {wd : Nat} (hw : 0 < wd) : ∀ (f g : Nat) (r : ByteArray), r.size ≤ f → r.size ≤ g → chunkF wd f r = chunkF wd g r
  | 0, g, r, h1, h2 => by
    have : r.size = 0 := by omega
    cases g <;> simp [chunkF, this]
  | f + 1, 0, r, h1, h2 => by
    have : r.size = 0 := by omega
    simp [chunkF, this]
  | f + 1, g + 1, r, h1, h2 => by
    simp only [chunkF]
    split
    · rfl
    · rw [chunkF_fuel hw f g _ (by rw [ByteArray.size_extract]; omega) (by rw [ByteArray.size_extract]; omega)]
theorem chunks_nil (wd : Nat) (s : ByteArray) (h : s.size = 0) : chunks wd s = [] := by unfold chunks; rw [h]; rfl
theorem chunks_step {wd : Nat} (hw : 0 < wd) (s : ByteArray) (h : s.size ≠ 0) : chunks wd s = s.extract 0 (min wd s.size) :: chunks wd (s.extract (min wd s.size) s.size) := by
  obtain ⟨k, hk⟩ : ∃ k, s.size = k + 1 := ⟨s.size - 1, by omega⟩
  have e : chunks wd s = chunkF wd (k + 1) s := by unfold chunks; rw [hk]
  rw [e, chunkF, if_neg h]
  congr 1
  exact chunkF_fuel hw _ _ _ (by rw [ByteArray.size_extract]; omega) (Nat.le_refl _)
theorem chunks_last {wd : Nat} (hw : 0 < wd) (s : ByteArray) (h : s.size ≠ 0) (hl : s.size ≤ wd) : chunks wd s = [s] := by
  rw [chunks_step hw s h, Nat.min_eq_right hl, chunks_nil _ _ (by rw [ByteArray.size_extract]; omega)]
  congr 1
  exact ByteArray.ext (by rw [ByteArray.data_extract]; exact Array.extract_eq_self_of_le (Nat.le_refl _))
def strLen : Value → Nat
  | .string r => r.size
  | _ => 0
set_option maxHeartbeats 4000000 in
set_option maxRecDepth 100000 in
theorem lines_ref (s : ByteArray) (hs : s.size ≤ 100000) (wd : Nat) (h1 : 1 ≤ wd) (h2 : wd ≤ 1000) (w : World) : Calls Tryd.prog 28 #[.string s, .int .i64 wd] w (RowPost Rd.str 9 (chunks wd s) w) := by
  obtain ⟨i0, hi, hz0, hz1, hz2⟩ := str_info0
  have HI := Lib.hid hi; have HZ0 := Lib.hid hz0; have HZ1 := Lib.hid hz1; have HZ2 := Lib.hid hz2
  clear hi hz0 hz1 hz2
  have hlt : ¬ (wd : Int) < 1 := by omega
  have hle : (1 : Int) ≤ (wd : Int) := by omega
  have hmx : max (wd : Int) 1 = (wd : Int) := by omega
  go_enter Tryd.func28, Tryd.ntmps28
  go_wp2_with fail
  go_loopw [0, 5] (fun v0 v5 wr => ∃ (r : ByteArray) (ls : List ByteArray), v0 = .string r ∧ ls.length + r.size ≤ s.size ∧ Hid (chunks wd s = ls ++ chunks wd r) ∧ Lift.Own Rd.str (fun _ => True) wr w.heap.size 9 v5 ls ∧ Below w.heap.size w wr) (fun v0 _ _ => strLen v0)
  case atStart => exact ⟨s, [], rfl, by simp, Lib.hid rfl, Lift.Own.nil _ _ _ _ _, Below.refl _ _⟩
  case round =>
    obtain ⟨r, ls, rfl, hsz, hC, hO, hb⟩ := hrel
    obtain ⟨ao, cap, rfl⟩ := hO.form
    have hB : w.heap.size ≤ wr.heap.size := hb.size
    by_cases hgt : wd < r.size
    · have hgz : (wd : Int) < (r.size : Int) := by omega
      have hst := chunks_step (by omega : 0 < wd) r (by omega)
      rw [Nat.min_eq_left (by omega)] at hst
      have hC2 : chunks wd s = (ls ++ [r.extract 0 wd]) ++ chunks wd (r.extract wd r.size) := by rw [hC.out, hst]; simp
      have HC := Lib.hid hC2
      have hx1 : (r.extract 0 wd).size ≤ maxTx := by rw [ByteArray.size_extract]; unfold maxTx; omega
      have HSZ := Lib.hid (show (r.extract wd r.size).size = r.size - wd by rw [ByteArray.size_extract]; omega)
      clear hst hC2 hC hmx
      go_wp2_with (first
        | (at_builtin; refine wpList_push Rd.str rfl _ _ 33 rfl w.heap.size 9 i0 _ 16 Tryd.underlying33 HI.out HZ0.out HZ1.out HZ2.out rfl (by decide) (fun _ => True) _ ls rfl hO [.string (r.extract 0 wd)] (r.extract 0 wd) _ rfl (by simp) ⟨rfl, hx1⟩ (by simp [Value.oneCell']) (by unfold maxLen; omega) (by omega) (by omega) ?_; intro v4 w4 hO4 hK4 hw4; obtain ⟨ao4, cap4, rfl⟩ := hO4.form)
        | fail)
      have hbw : Below w.heap.size w w4 := hb.trans (hK4.below hB (fun k hk => (hO.lt k hk.symm).1))
      go_roundw
      case measure => simp only [strLen]; rw [HSZ.out]; omega
      case rel => exact ⟨r.extract wd r.size, ls ++ [r.extract 0 wd], rfl, by rw [HSZ.out, List.length_append]; simp only [List.length_singleton]; omega, HC, by simpa using hO4, hbw⟩
    · have hgz : ¬ (wd : Int) < (r.size : Int) := by omega
      have hE := empty_list r
      by_cases h0 : r.size = 0
      · have hn : r.toList = [] := by rw [decide_eq_true h0] at hE; simpa using hE
        have he : (r.toList != ([] : List UInt8)) = false := by simpa using hn
        have he2 : r.toList.isEmpty = true := by rw [hn]; rfl
        have HC := Lib.hid (show chunks wd s = ls by rw [hC.out, chunks_nil wd r h0]; simp)
        clear hE hn h0 hC hmx
        go_wp2_with fail
        go_ret
        rw [HC.out]
        exact ⟨ao, cap, rfl, hO, hb⟩
      · have hn : r.toList ≠ [] := by rw [decide_eq_false h0] at hE; simpa using hE
        have he : (r.toList != ([] : List UInt8)) = true := by simpa using hn
        have he2 : r.toList.isEmpty = false := by simpa using hn
        have HC := Lib.hid (show chunks wd s = ls ++ [r] by rw [hC.out, chunks_last (by omega) r h0 (by omega)])
        have hx1 : r.size ≤ maxTx := by unfold maxTx; omega
        clear hE hn h0 hC hmx
        go_wp2_with (first
          | (at_builtin; refine wpList_push Rd.str rfl _ _ 33 rfl w.heap.size 9 i0 _ 16 Tryd.underlying33 HI.out HZ0.out HZ1.out HZ2.out rfl (by decide) (fun _ => True) _ ls rfl hO [.string r] r _ rfl (by simp) ⟨rfl, hx1⟩ (by simp [Value.oneCell']) (by unfold maxLen; omega) (by omega) (by omega) ?_; intro v4 w4 hO4 hK4 hw4; obtain ⟨ao4, cap4, rfl⟩ := hO4.form)
          | fail)
        have hbw : Below w.heap.size w w4 := hb.trans (hK4.below hB (fun k hk => (hO.lt k hk.symm).1))
        go_ret
        rw [HC.out]
        exact ⟨ao4, cap4, by rw [List.length_append, List.length_singleton]; rfl, by simpa using hO4, hbw⟩
end Go.Proofs.YtcfbmfcobpfcjaaDoor
