import Derived.Test.YtcfbmfcobpfcjaaDoorRows
import Derived.Handy
import Derived.Test.YtcfbmfcobpfcjaaDoorBuilder
import Derived.Lib.Hide
import Derived.Lib.AtoiErrMem
import Derived.StillTailTactics
import Derived.Deep.RegionLaw
import Derived.WalkSpells
import Derived.Lib.UnsafeStr
import Derived.Maps.AppendAt
namespace Go.Proofs.YtcfbmfcobpfcjaaDoor
open Go.RowKit Lift
set_option linter.unusedSimpArgs false
set_option linter.unusedVariables false

def dig (n : Nat) : UInt8 := if n < 10 then UInt8.ofNat (48 + n) else UInt8.ofNat (55 + n)
def hexOf (c : UInt8) : List UInt8 := [dig (c.toNat / 16), dig (c.toNat % 16)]
def hexL (l : List UInt8) : List UInt8 := l.flatMap hexOf

theorem dig_const : ∀ n, (h : n < 16) → ((#[48, 49, 50, 51, 52, 53, 54, 55, 56, 57, 65, 66, 67, 68, 69, 70] : Array UInt8)[n]'h) = dig n := by decide
theorem hexL_snoc (s : ByteArray) (k : Nat) (h : k < s.size) : hexL (s.data.toList.take (k + 1)) = hexL (s.data.toList.take k) ++ hexOf (s.data.toList.getD k 0) := by
  rw [List.take_succ_eq_append_getElem (by simpa using h)]
  simp [hexL, List.getD_eq_getElem?_getD, h]

def StrPost (l : List UInt8) (w : World) (e : Ending) (w' : World) : Prop := e = .returned (.string ⟨l.toArray⟩) ∧ Below w.heap.size w w'


set_option maxHeartbeats 1000000 in
theorem hex_any (s : ByteArray) (w : World) (hs : s.size ≤ 1000000) :
    Calls Tryd.prog 68 #[.string s] w (StrPost (hexL s.data.toList) w) := by
  obtain ⟨i0, hi, hz0, hz1, hz2⟩ := info_parts Tryd.infoByte
  go_enter Tryd.func68, Tryd.ntmps68
  go_wp2_with (at_make; refine wpList_make_own _ rfl _ _ 48 rfl w.heap.size 5 i0 (.int .u8 0) 1 Tryd.underlying48 hi hz0 hz1 _ _ _ (2 * s.size) rfl rfl ?b1 ?b2 ?b3 ?b4 ?_)
  case b1 => push_cast; omega
  case b2 => rw [hz2]; omega
  case b3 => unfold maxLen; omega
  case b4 => omega
  intro w1 hown hgrow
  have hcv := Lib.run_convert_string_bytes (P := Tryd.prog) w1 9 48 5 s (u := .string) Tryd.underlying9 Tryd.underlying48 Tryd.underlying5
  have hbw := Lib.bytesWorld_below w1 5 s
  have hcell := Lib.bytesWorld_cell w1 5 s
  have hbz := Lib.bytesWorld_size w1 5 s
  generalize Lib.bytesWorld w1 5 s = W at *
  have hown1 : W.ownsRow w.heap.size 5 1 (.slice (some ⟨w.heap.size, 0, none⟩) 0 (2 * s.size)) 0 [] := own_call hown hbw
  go_wp2
  go_loopw [3, 13] (fun v3 v13 wr => ∃ k : Nat, k ≤ s.size ∧ v13 = .int .i64 k ∧ wr.ownsRow w.heap.size 5 1 v3 (2 * k) (Lib.byteCells (hexL (s.data.toList.take k))) ∧ v3.ownBlock ≠ some w1.heap.size ∧ Below w.heap.size w wr ∧ w1.heap.size < wr.heap.size ∧ ∀ j, j < s.size → wr.cell? ⟨w1.heap.size, j, none⟩ = some (.int .u8 (s.data.toList.getD j 0).toNat)) (fun _ v13 _ => s.size - (intOf v13).toNat)
  case atStart => exact ⟨0, Nat.zero_le _, rfl, hown1, by simp [Value.ownBlock]; exact Nat.ne_of_lt (by have := hgrow.size; have := (hown.lt w.heap.size rfl).2; omega), ((Below.refl _ w).grown hgrow (Nat.le_refl _) (fun k hk => by cases hk)).trans (hbw.mono hgrow.size), by omega, hcell⟩
  case round =>
    obtain ⟨k, hk, rfl, hown, hne, hb, hlt, hc⟩ := hrel
    by_cases hks : k < s.size
    · obtain ⟨c, hcd⟩ : ∃ c, s.data.toList.getD k 0 = c := ⟨_, rfl⟩
      have hck := hc k hks
      rw [hcd] at hck
      have HC := Lib.hid hc
      have HD := Lib.hid hcd
      clear hc hcd
      have hc256 : (c.toNat : Int) < 256 := by have := c.toNat_lt; omega
      have hb1 : (0:Int) ≤ (c.toNat : Int) / 16 := by omega
      have hb2 : (c.toNat : Int) / 16 < 16 := by omega
      have hand : bits .and .u8 (c.toNat : Int) 15 = (c.toNat : Int) % 16 := by
        rw [show (15 : Int) = ((15 : Nat) : Int) from rfl, u8_and_nat _ _ (by omega) (by decide), show c.toNat &&& 15 = c.toNat % 16 from Nat.and_two_pow_sub_one_eq_mod c.toNat 4]; rfl
      have hb3 : (0:Int) ≤ (c.toNat : Int) % 16 := by omega
      have hb4 : (c.toNat : Int) % 16 < 16 := by omega
      go_wp2
      have hB : w.heap.size ≤ wr.heap.size := hb.size
      have hsz : 2 * k + 2 ≤ 10000000 := by omega
      go_region_law (refine step_append2 rfl _ _ 48 rfl w.heap.size 5 i0 (.int .u8 0) 1 1 Tryd.underlying48 hi hz0 hz1 hz2 rfl (by decide) u3 _ _ rfl (hown.drew.alloc _) _ 2 2 [_, _] rfl (by intro h; cases h) rfl (cells_new _ [_, _] 5) (by intro u hu; simp at hu; rcases hu with rfl | rfl <;> rfl) (by unfold maxLen; omega) (by omega) (by simp; omega) ?_; intro v' w2 hown2 hgrow _ hwhere)
      all_goals
        go_wp2
        go_roundw
        case measure => simp [intOf]; omega
        case rel =>
          refine ⟨k + 1, by omega, by go_num, ?_, ?_, ?_, ?_, ?_⟩
          · rw [hexL_snoc _ _ hks, HD.out]
            have e1 := dig_const _ (show c.toNat / 16 < 16 by have := c.toNat_lt; omega)
            have e2 := dig_const _ (show c.toNat % 16 < 16 by omega)
            rw [Lib.byteCells_append]
            have e3 : Lib.byteCells (hexOf c) = [.int .u8 ((dig (c.toNat / 16)).toNat : Int), .int .u8 ((dig (c.toNat % 16)).toNat : Int)] := rfl
            rw [e3, ← e1, ← e2]
            exact hown2
          · rcases hwhere with e | ⟨g, e, hg⟩
            · rw [e]; exact hne
            · rw [e]; intro e2; cases e2; simp at hg; omega
          · exact (((hb.drew).alloc (by simpa using hB) _)).grown hgrow (by simp; omega) (fun k hk => (hown.lt k hk).1)
          · have := hgrow.size; simp at this; omega
          · intro j hj
            rw [World.cell?_of_block (w := wr.drew.alloc (.cells _ 5)) (a := ⟨w1.heap.size, j, none⟩) (hgrow.block _ (by simp; omega) (Ne.symm hne)), ← HC.out j hj]
            exact ((Below.refl wr.heap.size wr).drew.alloc (by simp) (.cells _ 5)).cell (p := ⟨w1.heap.size, j, none⟩) hlt
    · obtain rfl : k = s.size := by omega
      rw [List.take_of_length_le (by simp)] at hown
      have hst := own_string (P := Tryd.prog) hown 48 9 5 Tryd.underlying48 Tryd.underlying5 Tryd.underlying9
      clear hc
      go_wp2
      go_ret
      exact ⟨rfl, hb⟩

theorem digit_ref (n : Nat) (h : n < 16) (w : World) : Calls Tryd.prog 79 #[.int .i64 n] w fun e w' => e = .returned (.int .u8 (dig n).toNat) ∧ w = w' := by
  by_cases hn : n < 10
  · have e : (48 + (n : Int)) = ((dig n).toNat : Int) := by unfold dig; rw [if_pos hn]; simp; omega
    have E := Lib.hid e
    clear e
    go_enter Tryd.func79, Tryd.ntmps79
    go_wp2
    go_ret
    exact ⟨by rw [← E.out]; rfl, rfl⟩
  · have e : (65 + (n : Int) - 10) = ((dig n).toNat : Int) := by unfold dig; rw [if_neg hn]; simp; omega
    have E := Lib.hid e
    clear e
    go_enter Tryd.func79, Tryd.ntmps79
    go_wp2
    go_ret
    exact ⟨by rw [← E.out]; rfl, rfl⟩

set_option maxHeartbeats 1000000 in
set_option maxRecDepth 100000 in
theorem hex_ref (s : ByteArray) (w : World) (hs : s.size ≤ 1000000) :
    Calls Tryd.prog 51 #[.string s] w (StrPost (hexL s.data.toList) w) := by
  obtain ⟨i0, hi, hz0, hz1, hz2⟩ := info_parts Tryd.infoByte
  go_enter Tryd.func51, Tryd.ntmps51
  go_wp2
  go_loopw [3, 4] (fun v3 v4 wr => ∃ k : Nat, k ≤ s.size ∧ v4 = .int .i64 k ∧ wr.ownsRow w.heap.size 5 1 v3 (2 * k) (Lib.byteCells (hexL (s.data.toList.take k))) ∧ Below w.heap.size w wr) (fun _ v4 _ => s.size - (intOf v4).toNat)
  case atStart => exact ⟨0, Nat.zero_le _, rfl, World.ownsRow_nil _ _ _ _, Below.refl _ _⟩
  case round =>
    obtain ⟨k, hk, rfl, hown, hb⟩ := hrel
    by_cases hks : k < s.size
    · have hsn := Lib.hid (hexL_snoc s k hks)
      have hB : w.heap.size ≤ wr.heap.size := hb.size
      have hsz : 2 * k + 2 ≤ 10000000 := by omega
      have hw : ∀ c : UInt8, IntKind.i64.wrap (c.toNat : Int) = (c.toNat : Int) := fun c => IntWalk.i64_in _ (by have := c.toNat_lt; omega)
      have hdv : ∀ c : UInt8, IntKind.i64.wrap ((IntKind.i64.wrap (c.toNat : Int)).tdiv 16) = ((c.toNat / 16 : Nat) : Int) := fun c => by
        have := c.toNat_lt
        rw [hw, Int.tdiv_eq_ediv_of_nonneg (by omega), IntWalk.i64_in _ (by omega)]; omega
      have hmd : ∀ c : UInt8, (IntKind.i64.wrap (c.toNat : Int)).tmod 16 = ((c.toNat % 16 : Nat) : Int) := fun c => by
        rw [hw, Int.tmod_eq_emod_of_nonneg (by omega)]; omega
      clear hw
      have hlt : ∀ c : UInt8, c.toNat / 16 < 16 := fun c => by have := c.toNat_lt; omega
      have hcl : s[k].toNat < 256 := s[k].toNat_lt
      have HDV := Lib.hid hdv; have HMD := Lib.hid hmd; have HLT := Lib.hid hlt
      have HDV2 := Lib.hid (fun c : UInt8 => show ((c.toNat : Int) / 16) = ((c.toNat / 16 : Nat) : Int) by omega)
      have HMD2 := Lib.hid (fun c : UInt8 => show ((c.toNat : Int) % 16) = ((c.toNat % 16 : Nat) : Int) by omega)
      clear hdv hmd hlt
      go_wp2
      go_region_law (first | (refine step_append2 rfl _ _ 48 rfl w.heap.size 5 i0 (.int .u8 0) 1 1 Tryd.underlying48 hi hz0 hz1 hz2 rfl (by decide) u3 _ _ rfl (hown.drew.alloc _) _ 2 2 [_, _] rfl (by intro h; cases h) rfl (cells_new _ [_, _] 5) (by intro u hu; simp at hu; rcases hu with rfl | rfl <;> rfl) (by unfold maxLen; omega) (by omega) (by simp; omega) ?_; intro v' w2 hown2 hgrow _ hwhere) | (go_simp; go_at_call 79; (first | rw [HDV.out] | rw [HMD.out] | rw [HDV2.out] | rw [HMD2.out]); refine (digit_ref _ (by omega) _).mono ?_; rintro e w1 ⟨rfl, rfl⟩))
      all_goals
        go_wp2
        go_roundw
        case measure => simp [intOf]; omega
        case rel =>
          refine ⟨k + 1, by omega, by go_num, ?_, (((hb.drew).alloc (by simpa using hB) _)).grown hgrow (by simp; omega) (fun k hk => (hown.lt k hk).1)⟩
          rw [hsn.out, Lib.byteCells_append]
          have e3 : Lib.byteCells (hexOf (s.data.toList.getD k 0)) = [.int .u8 ((dig (s[k].toNat / 16)).toNat : Int), .int .u8 ((dig (s[k].toNat % 16)).toNat : Int)] := by
            have : s.data.toList.getD k 0 = s[k] := by simp [List.getD_eq_getElem?_getD, hks]; rfl
            rw [this]; rfl
          rw [e3]
          exact hown2
    · obtain rfl : k = s.size := by omega
      rw [List.take_of_length_le (by simp)] at hown
      have hst := own_string (P := Tryd.prog) hown 48 9 5 Tryd.underlying48 Tryd.underlying5 Tryd.underlying9
      go_wp2
      go_ret
      exact ⟨rfl, hb⟩
end Go.Proofs.YtcfbmfcobpfcjaaDoor
