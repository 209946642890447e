/- The walks over check.Of, Seal, Open and the references' three: each is the register's sum. -/
import Derived.Test.YtdebfnlnpfienaaGreatDoorRows
import Derived.Test.YtdebfnlnpfienaaGreatDoorRd2
import Derived.Test.YtdebfnlnpfienaaGreatDoorCrc
import Derived.Test.YtdebfnlnpfienaaGreatDoorCrcO
import Derived.Handy
import Derived.Lib.Hide
import Derived.Lib.AtoiErrMem
import Derived.WalkSpells
import Derived.WalkLawsBesides
namespace Go.Proofs.YtdebfnlnpfienaaGreatDoor
open Go.RowKit Crc
set_option maxRecDepth 100000

def OfPost (s : ByteArray) (w : World) (e : Ending) (w' : World) : Prop := e = .returned (.int .u16 (w16 (crc s.data.toList))) ∧ Below w.heap.size w w'

set_option maxHeartbeats 400000 in
theorem of_any (s : ByteArray) (w : World) (hs : s.size ≤ maxLen) :
    Calls Tryz.prog 84 #[.string s] w (OfPost s w) := by
  unfold maxLen at hs
  have hcv := Lib.run_convert_string_bytes (P := Tryz.prog) w 9 83 5 s (u := .string) Tryz.underlying9 Tryz.underlying83 Tryz.underlying5
  have hbw := Lib.bytesWorld_below w 5 s
  have hcell := Lib.bytesWorld_cell w 5 s
  go_enter Tryz.func84, Tryz.ntmps84
  go_wp2
  generalize Lib.bytesWorld w 5 s = W at *
  go_loop [3,9] (fun x i => ∃ k : Nat, k ≤ s.size ∧ i = .int .i64 k ∧ x = .int .u16 (w16 (reg s k))) (fun _ i => s.size - (intOf i).toNat)
  case atStart => exact ⟨0, Nat.zero_le _, rfl, rfl⟩
  case round =>
    obtain ⟨k, hk, rfl, rfl⟩ := hrel
    by_cases hlt : k < s.size
    · have hc := hcell k hlt
      have hsn := Lib.hid (reg_succ s k hlt)
      go_wp2
      go_loop [3,18] (fun x i => ∃ j : Nat, j ≤ 8 ∧ i = .int .i64 j ∧ x = .int .u16 (w16 (it0 j (reg s k ^^^ (BitVec.ofNat 16 s[k].toNat <<< 8))))) (fun _ i => 8 - (intOf i).toNat)
      case atStart => exact ⟨0, Nat.zero_le _, rfl, by rw [← it0_zero]; rfl⟩
      case round =>
        obtain ⟨j, hj, rfl, rfl⟩ := hrel
        by_cases hlt : j < 8
        · go_wp2
          · go_round
            case rel => exact ⟨j+1, by omega, by go_num, by rw [step0_true _ (top_true _ ‹_›), it0_succ]⟩
            case measure => simp [intOf]; omega
          · go_round
            case rel => exact ⟨j+1, by omega, by go_num, by rw [step0_false _ (top_false _ ‹_›), it0_succ]⟩
            case measure => simp [intOf]; omega
        · obtain rfl : j = 8 := by omega
          go_wp2
          go_round
          case rel => exact ⟨k+1, by omega, by go_num, by rw [it0_byte, hsn.out]⟩
          case measure => simp [intOf]; omega
    · go_wp2
      go_ret
      exact ⟨by rw [reg_all s k (by omega)]; rfl, hbw⟩

def SealPost (s : ByteArray) (w : World) (e : Ending) (w' : World) : Prop := e = .returned (.string (s ++ ⟨(tail (crc s.data.toList)).toArray⟩)) ∧ Below w.heap.size w w'

def OpenPost (s : ByteArray) (w : World) (e : Ending) (w' : World) : Prop := e = .returned (.tuple #[.string (openS s), .bool (openB s)]) ∧ Below w.heap.size w w'
theorem openPost_no {s : ByteArray} {w w' : World} (h : openB s = false) (hb : Below w.heap.size w w') : OpenPost s w (.returned (.tuple #[.string ⟨#[]⟩, .bool false])) w' := by
  refine ⟨?_, hb⟩; unfold openS; rw [h]; rfl
theorem openPost_yes {s : ByteArray} {w w' : World} (h : openB s = true) (hb : Below w.heap.size w w') : OpenPost s w (.returned (.tuple #[.string (s.extract 0 (s.size - 2)), .bool true])) w' := by
  refine ⟨?_, hb⟩; unfold openS; rw [h]; rfl

end Go.Proofs.YtdebfnlnpfienaaGreatDoor
