/- Lines that are too many, or too long. -/
import Derived.Test.YtclcahkgeaediaaDoorLin1
namespace Go.Proofs.YtclcahkgeaediaaDoor
open Go.RowKit Lift
set_option linter.unusedSimpArgs false
set_option linter.unusedVariables false

def sumL (l : List ByteArray) : Nat := (l.map ByteArray.size).sum
def greatS : Nat → Nat → List ByteArray → Bool
  | _, _, [] => false
  | n, i, c :: r => if 2000 < n + c.size ∨ 200 < i then true else greatS (n + c.size) (i + 1) r
theorem greatS_len : ∀ (l : List ByteArray) (n i : Nat), greatS n i l = false → n ≤ 2000 → n + sumL l ≤ 2000 ∧ (i + l.length ≤ max i 201)
  | [], n, i, _, h => ⟨by simpa [sumL] using h, by simp; omega⟩
  | c :: r, n, i, h, hn => by
    rw [greatS] at h
    split at h
    · cases h
    · rename_i hs
      have := greatS_len r _ _ h (by omega)
      simp [sumL] at this ⊢
      omega
set_option maxHeartbeats 1000000 in
set_option maxRecDepth 100000 in
theorem great_strs (ao : Option Addr) (cap : Nat) (l : List ByteArray) (w : World) (hl : SlAt Rd.str (· < w.heap.size) w ao l) (hlen : l.length ≤ 9223372036854775807) :
    Calls Tryd.prog 5 #[.slice ao l.length cap] w (BelowPost (.bool (greatS 0 0 l)) w) := by
  go_enter Tryd.func5, Tryd.ntmps5
  go_wp2_with fail
  go_loopw [3, 4] (fun v3 v4 wr => ∃ k n : Nat, k ≤ l.length ∧ k ≤ 201 ∧ n ≤ 2000 ∧ v4 = .int .i64 k ∧ v3 = .int .i64 n ∧ Hid (greatS 0 0 l = greatS n k (l.drop k)) ∧ Below w.heap.size w wr) (fun _ v4 _ => l.length - (intOf v4).toNat)
  case atStart => exact ⟨0, 0, by omega, by omega, by omega, rfl, rfl, Lib.hid rfl, Below.refl _ _⟩
  case round =>
    obtain ⟨k, n, hk, hk2, hn, rfl, rfl, hg, hb⟩ := hrel
    by_cases hkl : k < l.length
    · obtain ⟨c, hcl⟩ := some_at hkl
      obtain ⟨bb, oo, rfl, hs1, hb4, hok, y0⟩ := str_get (hl.old hb) hcl
      have hk3 : (k : Int) < (l.length : Int) := by omega
      have hg2 := hg.out
      rw [drop_at2 hcl, greatS] at hg2
      have hz3 : c.size ≤ 140737488351232 := by simpa [maxTx] using hok
      by_cases h1 : 2000 < n + c.size
      · have d1 : decide ((2000:Int) < ((n:Int) + (c.size:Int))) = true := by simp; omega
        rw [if_pos (.inl h1)] at hg2
        have HG := Lib.hid hg2
        clear hg2
        go_wp2_with fail
        go_ret
        exact ⟨by rw [HG.out]; rfl, hb⟩
      · have hcz : c.size ≤ 2000 := by omega
        have d1 : decide ((2000:Int) < ((n:Int) + (c.size:Int))) = false := by simp; omega
        by_cases h2 : 200 < k
        · have d2 : decide ((200:Int) < (k:Int)) = true := by simp; omega
          rw [if_pos (.inr h2)] at hg2
          have HG := Lib.hid hg2
          clear hg2
          go_wp2_with fail
          go_ret
          exact ⟨by rw [HG.out]; rfl, hb⟩
        · have d2 : decide ((200:Int) < (k:Int)) = false := by simp; omega
          rw [if_neg (by omega)] at hg2
          have HG := Lib.hid hg2
          clear hg2
          go_wp2_with fail
          go_roundw
          case measure => simp [intOf]; omega
          case rel => exact ⟨k + 1, n + c.size, by omega, by omega, by omega, by go_num, by go_num, HG, hb⟩
    · obtain rfl : k = l.length := by omega
      have hg2 := hg.out
      rw [List.drop_length, greatS] at hg2
      have HG := Lib.hid hg2
      clear hg2
      go_wp2_with fail
      go_ret
      exact ⟨by rw [HG.out]; rfl, hb⟩
end Go.Proofs.YtclcahkgeaediaaDoor
