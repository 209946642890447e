/- Where nothing is pending: the fast reckoning changes nothing; the program's. -/
import Derived.Test.YtefefpiealknlaaGreatDoorMd7
namespace Go.Proofs.YtefefpiealknlaaGreatDoor
open Go.RowKit Lift
set_option linter.unusedSimpArgs false
set_option linter.unusedVariables false

def UnitPost (w : World) (e : Ending) (w' : World) : Prop := e = .returned (.tuple #[]) ∧ w = w'
set_option maxHeartbeats 1000000 in
set_option maxRecDepth 100000 in
theorem insert_small (ao : Option Addr) (cap n : Nat) (hn : n ≤ 1) (f : Value) (w : World) : Calls Tryz.prog 62 #[.slice ao n cap, .int .i64 0, .int .i64 n, f] w (UnitPost w) := by
  have hd : decide ((1 : Int) < (n : Int)) = false := by simp; omega
  have hd2 : decide (1 < n) = false := by simp; omega
  go_enter Tryz.func62, Tryz.ntmps62
  go_wp2_with fail
  go_loopw [8] (fun v8 wr => v8 = .int .i64 1 ∧ w = wr) (fun _ _ => 0)
  case atStart => exact ⟨rfl, rfl⟩
  case round =>
    obtain ⟨rfl, rfl⟩ := hrel
    go_wp2_with fail
    go_end0
    exact ⟨rfl, rfl⟩
set_option maxHeartbeats 1000000 in
set_option maxRecDepth 100000 in
theorem stable_small (ao : Option Addr) (cap n : Nat) (hn : n ≤ 1) (f : Value) (w : World) : Calls Tryz.prog 47 #[.slice ao n cap, .int .i64 n, f] w (UnitPost w) := by
  have hd : decide ((20 : Int) ≤ (n : Int)) = false := by simp; omega
  have hd2 : decide ((20 : Int) < (n : Int)) = false := by simp; omega
  have HC := Lib.hid (insert_small ao cap n hn f)
  go_enter Tryz.func47, Tryz.ntmps47
  go_wp2_with fail
  go_loopw [7, 8] (fun v7 v8 wr => v7 = .int .i64 0 ∧ v8 = .int .i64 20 ∧ w = wr) (fun _ _ _ => 0)
  case atStart => exact ⟨rfl, rfl, rfl⟩
  case round =>
    obtain ⟨rfl, rfl, rfl⟩ := hrel
    go_wp2_with fail
    refine (HC.out _).mono ?_
    rintro e w1 ⟨rfl, rfl⟩
    go_wp2_with fail
    go_loopw [6] (fun v6 wr => v6 = .int .i64 20 ∧ w = wr) (fun _ _ => 0)
    case atStart => exact ⟨rfl, rfl⟩
    case round =>
      obtain ⟨rfl, rfl⟩ := hrel
      go_wp2_with fail
      go_end0
      exact ⟨rfl, rfl⟩
set_option maxHeartbeats 1000000 in
set_option maxRecDepth 100000 in
theorem sort_small (ao : Option Addr) (cap n : Nat) (hn : n ≤ 1) (f : Value) (w : World) : Calls Tryz.prog 25 #[.slice ao n cap, f] w (UnitPost w) := by
  have HC := Lib.hid (stable_small ao cap n hn f)
  go_enter Tryz.func25, Tryz.ntmps25
  go_wp2_with fail
  refine (HC.out _).mono ?_
  rintro e w1 ⟨rfl, rfl⟩
  go_wp2_with fail
  go_end0
  exact ⟨rfl, rfl⟩
set_option maxHeartbeats 8000000 in
set_option maxRecDepth 100000 in
theorem fast_stay {base : Nat} {w : World} {d : Nat} {v : Value} {ver rule : Int} (l : List ByteArray) (h : Dk base w d v (recsOf l) ver rule) (s : Sd) (hs : SdOk base w s) (hbw : base ≤ w.heap.size) (he : s.e = entsOf l) (hg : s.g = []) (hlen : l.length ≤ 100) :
    Calls Tryz.prog 12 #[.pointer (some ⟨d, 0, none⟩), sdV s] w (DkPost base d v (recsOf l) ver rule w) := by
  obtain ⟨W0, hW0⟩ : ∃ W0, w.alloc (.cells #[.slice s.ea s.e.length s.ec, .slice s.ga s.g.length s.gc, .slice s.pa s.p.length s.pc, .slice s.ra s.r.length s.rc] 28) = W0 := ⟨_, rfl⟩
  have hb0 : Below w.heap.size w W0 := by rw [← hW0]; exact (Below.refl _ _).alloc (Nat.le_refl _) _
  have hsz : w.heap.size < W0.heap.size := by rw [← hW0]; simp
  have hbx : SdBox W0 w.heap.size s := by rw [← hW0]; exact ⟨by simp [go_sem], by simp [go_sem], by simp [go_sem], by simp [go_sem]⟩
  have HS := Lib.hid (fun wr (hb : Below base w wr) => hs.old hb)
  have HD := Lib.hid h
  have hel : s.e.length = l.length := by rw [he, entsOf_len]
  have hg0 : s.g.length = 0 := by rw [hg]; rfl
  obtain ⟨x0, x1, x2, x3⟩ := hbx
  have HW0 := Lib.hid hW0
  have HB0 := Lib.hid hb0
  have HE := Lib.hid he
  unfold sdV
  rw [hg0, hel] at HW0 ⊢
  rw [hg0] at x1
  rw [hel] at x0
  clear h hs hb0 hW0 he hg hel hg0
  go_enter Tryz.func12, Tryz.ntmps12
  go_upto_region 2 with fail
  rw [HW0.out]
  go_wp2_with fail
  go_loopw [5, 15] (fun v5 v15 wr => ∃ k : Nat, k ≤ l.length ∧ v5 = .slice none 0 0 ∧ v15 = .int .i64 k ∧ Below W0.heap.size W0 wr) (fun _ v15 _ => l.length - (intOf v15).toNat)
  case atStart => exact ⟨0, by omega, rfl, rfl, Below.refl _ _⟩
  case round =>
    obtain ⟨k, hk, rfl, rfl, hb⟩ := hrel
    by_cases hkl : k < l.length
    · obtain ⟨t, htl⟩ := some_at hkl
      have hbw0 : Below w.heap.size w wr := chain HB0.out hb
      have hsw := HS.out wr (hbw0.mono hbw)
      obtain ⟨bb, oo, hao, hs1, hb1, hok, y0, y1, y2, y3⟩ := ent_get hsw.e (by rw [HE.out]; exact entsOf_at htl)
      rw [hao] at x0 ⊢
      simp only [mkE] at y0 y1 y2 y3
      have hkl2 : (k : Int) < (l.length : Int) := by omega
      have HBN := Lib.hid (hb.alloc hb.size (.cells #[.int .i64 ((k : Int) + 1), .int .i64 0, .int .i64 (2 * (k : Int) + 1), .string t] 30))
      clear hok hsw htl hbw0 hao hb
      go_wp2_with fail
      go_roundw
      case measure => simp [intOf]; omega
      case rel => exact ⟨k + 1, by omega, rfl, by go_num, HBN.out⟩
    · obtain rfl : k = l.length := by omega
      obtain ⟨WL, rfl⟩ : ∃ x : World, x = wr := ⟨_, rfl⟩
      have x1 := (hb.cell (p := ⟨w.heap.size, 1, none⟩) hsz).trans x1
      have HBL := Lib.hid (chain HB0.out hb)
      clear x0 x2 x3 hb
      go_wp2_with fail
      go_loopw [5, 31] (fun v5 v31 wr => v5 = .slice none 0 0 ∧ v31 = .int .i64 0 ∧ WL = wr) (fun _ _ _ => 0)
      case atStart => exact ⟨rfl, rfl, rfl⟩
      case round =>
        obtain ⟨rfl, rfl, rfl⟩ := hrel
        have HC := Lib.hid (fun f => sort_small none 0 0 (by omega) f WL)
        go_wp2_with fail
        refine (HC.out _).mono ?_
        rintro e w1 ⟨rfl, rfl⟩
        go_wp2_with fail
        go_loopw [45] (fun v45 wr => v45 = .int .i64 0 ∧ WL = wr) (fun _ _ => 0)
        case atStart => exact ⟨rfl, rfl⟩
        case round =>
          obtain ⟨rfl, rfl⟩ := hrel
          go_wp2_with fail
          go_ret
          exact ⟨rfl, HD.out.below HBL.out, Kept.of_below HBL.out _⟩
end Go.Proofs.YtefefpiealknlaaGreatDoor
