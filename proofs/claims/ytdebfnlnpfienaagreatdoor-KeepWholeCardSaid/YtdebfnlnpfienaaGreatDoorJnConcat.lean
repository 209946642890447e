/- Bytes put together: slices.Grow and slices.Concat. -/
import Derived.Test.YtdebfnlnpfienaaGreatDoorJnDefs
import Derived.Lib.AppendZerosOnto
namespace Go.Proofs.YtdebfnlnpfienaaGreatDoor
open Go.RowKit Lift
set_option linter.unusedSimpArgs false
set_option linter.unusedVariables false

def rByte : Rd UInt8 where
  n := 1
  rel _ _ cs a := cs = [.int .u8 (a.toNat : Int)]
  len := by rintro _ w cs a rfl; rfl
  mono := fun _ _ _ _ _ h _ => h
  kept := fun _ _ _ _ _ _ h _ _ => h
theorem byte_flat : Flat rByte := fun _ _ _ _ _ _ h => h
theorem byte_ones : ∀ S w cs c, rByte.rel S w cs c → ∀ u ∈ cs, u.oneCell' = true := by
  rintro S w cs c rfl u hu
  simp at hu; subst hu; rfl
set_option maxHeartbeats 1000000 in
set_option maxRecDepth 100000 in
theorem grow_any (n : Nat) (h0 : 0 < n) (hn : n ≤ 100000) (w : World) : Calls Tryz.prog 105 #[.slice none 0 0, .int .i64 n] w
    (fun e w' => ∃ cap, e = .returned (.slice (some ⟨w.heap.size, 0, none⟩) 0 cap) ∧ Own rByte (fun _ => True) w' w.heap.size 5 (.slice (some ⟨w.heap.size, 0, none⟩) 0 cap) [] ∧ Below w.heap.size w w') := by
  obtain ⟨i0, hi, hz0, hz1, hz2⟩ := info_parts u8_row
  have hd : decide ((n : Int) < 0) = false := by simp
  have hd2 : decide (0 < (n : Int)) = true := by simpa using h0
  have hr := Lib.run_append_nil_zeros (P := Tryz.prog) w 83 3 83 5 i0 _ .i64 .i64 Tryz.underlying83 Tryz.underlying3 hi hz0 n h0 (by rw [hz1]; decide) (by omega) (by rw [hz2]; omega)
  have hge := grownCap_ge w n 0 5
  have hle := grownCap_le_maxLen w n 0 5 (by unfold maxLen; omega)
  generalize grownCap w n 0 5 = c at *
  have hown : (w.drew.alloc (.cells (Builtin.zeroCells (Value.int IntKind.u8 0).cells n ++ Builtin.zeroCells (Value.int IntKind.u8 0).cells (c - n)) 5)).ownsRow w.heap.size 5 1 (.slice (some ⟨w.heap.size, 0, none⟩) 0 c) 0 [] :=
    World.ownsRow_made w.drew _ c (Nat.le_refl _) hle (by simp [Builtin.zeroCells, Value.cells]; omega)
  have hb : Below w.heap.size w (w.drew.alloc (.cells (Builtin.zeroCells (Value.int IntKind.u8 0).cells n ++ Builtin.zeroCells (Value.int IntKind.u8 0).cells (c - n)) 5)) := (Below.refl _ _).drew.alloc (Nat.le_refl _) _
  have HF : Hid (∃ cap, Ending.returned (.slice (some ⟨w.heap.size, 0, none⟩) 0 c) = .returned (.slice (some ⟨w.heap.size, 0, none⟩) 0 cap) ∧ Own rByte (fun _ => True) (w.drew.alloc (.cells (Builtin.zeroCells (Value.int IntKind.u8 0).cells n ++ Builtin.zeroCells (Value.int IntKind.u8 0).cells (c - n)) 5)) w.heap.size 5 (.slice (some ⟨w.heap.size, 0, none⟩) 0 cap) [] ∧ Below w.heap.size w (w.drew.alloc (.cells (Builtin.zeroCells (Value.int IntKind.u8 0).cells n ++ Builtin.zeroCells (Value.int IntKind.u8 0).cells (c - n)) 5))) :=
    Lib.hid ⟨c, rfl, ⟨[], hown, RowsOf.nil _ _ _⟩, hb⟩
  obtain ⟨wz, hwz⟩ : ∃ wz, (w.drew.alloc (.cells (Builtin.zeroCells (Value.int IntKind.u8 0).cells n ++ Builtin.zeroCells (Value.int IntKind.u8 0).cells (c - n)) 5)) = wz := ⟨_, rfl⟩
  rw [hwz] at hr HF
  have hnc : n ≤ c := hge
  have hcm : (c : Int) ≤ 9223372036854775807 := by unfold maxLen at hle; omega
  clear hown hb hwz hge hi hz0 hz1 hz2
  go_enter Tryz.func105, Tryz.ntmps105
  go_wp2_with (first | (at_builtin; refine Lib.wpList_append_run _ rfl _ _ 83 3 rfl _ _ rfl rfl _ _ hr ?_))
  go_ret
  exact HF.out
def sumN2 (ls : List (List UInt8)) : Nat := (ls.map List.length).sum
theorem sumN2_snoc (ls : List (List UInt8)) (c : List UInt8) : sumN2 (ls ++ [c]) = sumN2 ls + c.length := by simp [sumN2]
theorem sumN2_flat (ls : List (List UInt8)) : ls.flatten.length = sumN2 ls := by simp [sumN2, List.length_flatten]
theorem sumN2_take (ls : List (List UInt8)) (k : Nat) : sumN2 (ls.take k) ≤ sumN2 ls := by
  have h := congrArg sumN2 (List.take_append_drop k ls)
  simp only [sumN2, List.map_append, List.sum_append] at h ⊢
  omega
def BytesPost (l : List UInt8) (w : World) (e : Ending) (w' : World) : Prop := ∃ v, e = .returned v ∧ Own rByte (fun _ => True) w' w.heap.size 5 v l ∧ Below w.heap.size w w'
set_option maxHeartbeats 1000000 in
set_option maxRecDepth 100000 in
theorem concat_any (ao : Option Addr) (cap : Nat) (ls : List (List UInt8)) (w : World) (hl : SlAt rByte.slice (· < w.heap.size) w ao ls) (hlen : ls.length ≤ 100) (h0 : 0 < sumN2 ls) (hs : sumN2 ls ≤ 100000) :
    Calls Tryz.prog 85 #[.slice ao ls.length cap] w (BytesPost ls.flatten w) := by
  obtain ⟨i0, hi, hz0, hz1, hz2⟩ := info_parts u8_row
  have HI := Lib.hid hi; have HZ0 := Lib.hid hz0; have HZ1 := Lib.hid hz1; have HZ2 := Lib.hid hz2
  clear hi hz0 hz1 hz2
  go_enter Tryz.func85, Tryz.ntmps85
  go_wp2_with fail
  go_loop [3,11] (fun v3 v11 => ∃ k : Nat, k ≤ ls.length ∧ v11 = .int .i64 k ∧ v3 = .int .i64 (sumN2 (ls.take k))) (fun _ v => ls.length - (intOf v).toNat)
  case atStart => exact ⟨0, by omega, rfl, by simp [sumN2]⟩
  case round =>
    obtain ⟨k, hk, rfl, rfl⟩ := hrel
    by_cases hkl : k < ls.length
    · obtain ⟨c, hcl⟩ := some_at hkl
      obtain ⟨b, off, cs, rfl, hS, hlt, ⟨ao2, cap2, rfl, r1, r2, r3, r4⟩, hc⟩ := hl.get hcl
      have y0 := hc 0 _ rfl
      rw [show off + k * rByte.slice.n + 0 = off + k by simp [Rd.slice]] at y0
      have hsn := sumN2_snoc (ls.take k) c
      rw [← take_at2 hcl] at hsn
      have hst := sumN2_take ls (k + 1)
      have hsk := sumN2_take ls k
      have hkl2 : (k : Int) < (ls.length : Int) := by omega
      have HSN := Lib.hid hsn
      have hb1 : sumN2 (ls.take k) + c.length ≤ 100000 := by omega
      clear hsn hst hsk hc
      go_wp2_with fail
      go_round
      case measure => simp [intOf]; omega
      case rel => exact ⟨k + 1, by omega, by go_num, by rw [HSN.out]; congr 1⟩
    · obtain rfl : k = ls.length := by omega
      rw [List.take_length]
      have HG := Lib.hid (grow_any (sumN2 ls) h0 hs w)
      clear hkl
      go_wp2_with fail
      refine HG.out.mono ?_
      rintro e w1 ⟨c1, rfl, hO1, hb1⟩
      go_wp2_with fail
      go_loopw [6,27] (fun v6 v27 wr => ∃ k : Nat, k ≤ ls.length ∧ v27 = .int .i64 k ∧ Own rByte (fun _ => True) wr w.heap.size 5 v6 (ls.take k).flatten ∧ Below w.heap.size w wr) (fun _ v _ => ls.length - (intOf v).toNat)
      case atStart => exact ⟨0, by omega, rfl, hO1, hb1⟩
      case round =>
        obtain ⟨k, hk, rfl, hO, hb⟩ := hrel
        obtain ⟨ao6, cap6, rfl⟩ := hO.form
        have hwz := hb.size
        by_cases hkl : k < ls.length
        · obtain ⟨c, hcl⟩ := some_at hkl
          obtain ⟨b, off, cs, rfl, hS, hlt, ⟨ao2, cap2, rfl, r1, r2, r3, r4⟩, hc⟩ := (hl.old hb).get hcl
          have y0 := hc 0 _ rfl
          rw [show off + k * rByte.slice.n + 0 = off + k by simp [Rd.slice]] at y0
          have hsn := sumN2_snoc (ls.take k) c
          rw [← take_at2 hcl] at hsn
          have hst := sumN2_take ls (k + 1)
          have hfl := sumN2_flat (ls.take k)
          have hkl2 : (k : Int) < (ls.length : Int) := by omega
          have hFT : (ls.take (k + 1)).flatten = (ls.take k).flatten ++ c := by rw [take_at2 hcl]; simp
          have HFT := Lib.hid hFT
          have hlow := hO.lt
          have hap := Lib.hid (r4.mono (S' := fun b => True ∧ some b ≠ (Value.slice ao6 (ls.take k).flatten.length cap6).ownBlock) (fun b h1 h2 => ⟨trivial, fun e => by have := (hlow b e.symm).1; omega⟩))
          have hb1 : (ls.take k).flatten.length + c.length ≤ 100000 := by omega
          obtain ⟨m, hm⟩ : ∃ m, (ls.take k).flatten = m := ⟨_, rfl⟩
          rw [hm] at hO hb1 HFT hlow hap ⊢
          have HM := Lib.hid hm
          clear hsn hst hfl hc r4 hFT hm hlow
          go_wp2_with (first | (at_builtin; refine wpList_pushAll rByte rfl _ _ 83 rfl w.heap.size 5 i0 _ 1 Tryz.underlying83 HI.out HZ0.out HZ1.out HZ2.out rfl (by decide) (fun _ => True) _ m (by rfl) hO ao2 cap2 c rfl r3 hap.out byte_ones (by unfold maxLen; omega) (by omega) hwz ?_; intro v2 w2 hO2 hK2 hw2))
          obtain ⟨ao7, cap7, rfl⟩ := hO2.form
          have hB2 : Below w.heap.size w w2 := hb.trans (hK2.below hwz (fun j e => (hO.lt j e.symm).1))
          go_roundw
          case measure => simp [intOf]; omega
          case rel => exact ⟨k + 1, by omega, by go_num, by rw [HFT.out]; exact hO2, hB2⟩
        · obtain rfl : k = ls.length := by omega
          rw [List.take_length] at hO
          go_wp2_with fail
          go_ret
          exact ⟨_, rfl, by rw [List.take_length]; exact hO, hb⟩
end Go.Proofs.YtdebfnlnpfienaaGreatDoor
