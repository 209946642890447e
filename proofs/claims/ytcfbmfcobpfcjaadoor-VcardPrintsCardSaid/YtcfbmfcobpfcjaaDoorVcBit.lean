/- Bits of a text: the document's. -/
import Derived.Test.YtcfbmfcobpfcjaaDoorVcOne
namespace Go.Proofs.YtcfbmfcobpfcjaaDoor
open Go.RowKit Lift
set_option linter.unusedSimpArgs false
set_option linter.unusedVariables false

def bitN (s : ByteArray) (i : Nat) : Nat := bN s (i / 8) / 2 ^ (7 - i % 8) % 2
theorem bit_num (x k : Nat) (h : x < 256) : ((wrap64 (x : Int)) / 2 ^ k).tmod 2 = ((x / 2 ^ k % 2 : Nat) : Int) := by
  rw [IntWalk.wrap64_in _ (by omega)]
  have e : (2 : Int) ^ k = ((2 ^ k : Nat) : Int) := by simp
  have e2 : (x : Int) / ((2 ^ k : Nat) : Int) = ((x / 2 ^ k : Nat) : Int) := by simp
  rw [e, e2]
  generalize x / 2 ^ k = y
  rw [Int.tmod_eq_emod_of_nonneg (by omega)]; omega
set_option maxRecDepth 100000 in
set_option maxHeartbeats 4000000 in
theorem bit_ref (s : ByteArray) (hs : s.size ≤ 100000) (i : Nat) (hi : i ≤ 10000000) (w : World) : Calls Tryd.prog 52 #[.string s, .int .i64 i] w (IntPost .i64 (bitN s i) w) := by
  have hd : IntKind.i64.wrap ((i : Int).tdiv 8) = ((i / 8 : Nat) : Int) := by rw [Int.tdiv_eq_ediv_of_nonneg (by omega), IntWalk.i64_in _ (by omega)]; omega
  have hm : IntKind.i64.wrap ((i : Int).tmod 8) = ((i % 8 : Nat) : Int) := by rw [Int.tmod_eq_emod_of_nonneg (by omega), IntWalk.i64_in _ (by omega)]; omega
  by_cases hq : i / 8 < s.size
  · have hqz : ((i / 8 : Nat) : Int) < (s.size : Int) := by omega
    have HB := Lib.hid (show bitN s i = (s[i / 8]'hq).toNat / 2 ^ (7 - i % 8) % 2 by unfold bitN; rw [bN_at s (i / 8) hq])
    go_enter Tryd.func52, Tryd.ntmps52
    go_wp2_with fail
    go_ret
    exact ⟨by rw [HB.out, ← bit_num _ _ (s[i / 8]'hq).toNat_lt]; rfl, rfl⟩
  · have hqz : (s.size : Int) ≤ ((i / 8 : Nat) : Int) := by omega
    have HB := Lib.hid (show bitN s i = 0 by
      unfold bitN bN
      rw [List.getD_eq_getElem?_getD, List.getElem?_eq_none (by simp; omega)]
      simp)
    go_enter Tryd.func52, Tryd.ntmps52
    go_wp2_with fail
    go_ret
    exact ⟨by rw [HB.out]; rfl, rfl⟩
end Go.Proofs.YtcfbmfcobpfcjaaDoor
