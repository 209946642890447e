/- Letters in lines of so many: the program's Lines (an iterator). -/
import Derived.Test.YtcfbmfcobpfcjaaDoorVcLines
import Derived.Test.YtcfbmfcobpfcjaaDoorOrdRange
import Derived.RangeFuncNested
import Derived.RangeFuncBound
import Derived.RangeFuncCalls
import Derived.RangeFuncLeaves
import Derived.Shelf.Abstract
import Derived.Shelf.RegionOpen
import Derived.WalkKit
import Derived.OwnWalkIn
import Derived.TacticsInMore
import Derived.LoopNIn
import Derived.LoopIn
namespace Go.Proofs.YtcfbmfcobpfcjaaDoor
open Go.RowKit Lift Go.Shelf
set_option linter.unusedSimpArgs false
set_option linter.unusedVariables false
attribute [local go_sem] Oper.semAt_some

def encT (x : ByteArray) : Array Value := #[.string x]
set_option maxRecDepth 100000 in
set_option maxHeartbeats 4000000 in
theorem six1_good (n : Nat) (hn : 1 ≤ n) (lp b2 b3 : Nat) (X : Nat → Prop) (s : ByteArray) (hs : s.size ≤ 100000) (wd : Nat) (h1 : 1 ≤ wd) (h2 : wd ≤ 1000) (W0 : World) (J : List ByteArray → World → Prop) (hg : ∀ pre W, J pre W → Kept X W0 W)
    (W : World) (hY : ∀ pre x W1, J pre W1 → pre ++ [x] <+: chunks wd s → YieldAt Fence.wide (n - 1) Tryd.prog lp (encT x) W1 fun e W' => e = .returned (.bool true) ∧ J (pre ++ [x]) W')
    (h2c : W0.cell? ⟨b2, 0, none⟩ = some (.string s)) (h2l : b2 < W0.heap.size) (h2x : ¬ X b2) (h3c : W0.cell? ⟨b3, 0, none⟩ = some (.int .i64 wd)) (h3l : b3 < W0.heap.size) (h3x : ¬ X b3) (h0 : J [] W) :
    CallsIn Fence.wide n Tryd.prog 64 #[.func (.yield lp) #[] #[], .pointer (some ⟨b2, 0, none⟩), .pointer (some ⟨b3, 0, none⟩)] W fun e W' => (∃ v, e = .returned v) ∧ ∃ xs, xs = chunks wd s ∧ J xs W' := by
  have c2 := ((hg _ _ h0).cell (p := ⟨b2, 0, none⟩) h2l h2x).trans h2c
  refine callsIn_of_wp Tryd.func64 rfl trivial ?_ rfl
  simp only [Tryd.ntmps64, List.size_toArray, List.length_cons, List.length_nil, Nat.reduceAdd, Nat.reduceSub, Array.replicate_succ, Array.replicate_zero, List.push_toArray, List.append_toArray, List.nil_append, List.cons_append]
  gi_wp2
  gi_loopw [4, 5] (fun v4 v5 wr => ∃ (r : ByteArray) (pre : List ByteArray), v4 = .string r ∧ r.size ≤ s.size ∧ Hid (chunks wd s = pre ++ chunks wd r) ∧ J pre wr) (fun v4 _ _ => strLen v4)
  case atStart => exact ⟨s, [], rfl, Nat.le_refl _, Lib.hid rfl, h0⟩
  case round =>
    obtain ⟨r, pre, rfl, hsz, hC, hJ⟩ := hrel
    have hE := empty_list r
    by_cases hr0 : r.size = 0
    · have hn' : r.toList = [] := by rw [decide_eq_true hr0] at hE; simpa using hE
      have he : (r.toList != ([] : List UInt8)) = false := by simpa using hn'
      have he2 : r.toList.isEmpty = true := by rw [hn']; rfl
      have HC := Lib.hid (show pre = chunks wd s by rw [hC.out, chunks_nil wd r hr0]; simp)
      clear hE hn' hr0 hC
      gi_wp2
      go_end0
      exact ⟨⟨_, rfl⟩, pre, HC.out, hJ⟩
    · have hn' : r.toList ≠ [] := by rw [decide_eq_false hr0] at hE; simpa using hE
      have he : (r.toList != ([] : List UInt8)) = true := by simpa using hn'
      have he2 : r.toList.isEmpty = false := by simpa using hn'
      have hst := chunks_step (by omega : 0 < wd) r hr0
      have c3 := ((hg _ _ hJ).cell (p := ⟨b3, 0, none⟩) h3l h3x).trans h3c
      obtain ⟨m, hm⟩ : ∃ m, min wd r.size = m := ⟨_, rfl⟩
      rw [hm] at hst
      have hmn : min (wd : Int) (r.size : Int) = (m : Int) := by omega
      have hm1 : m ≤ r.size := by omega
      have hmz : (m : Int) ≤ (r.size : Int) := by omega
      have hm0 : 0 < m := by omega
      have hC2 : chunks wd s = (pre ++ [r.extract 0 m]) ++ chunks wd (r.extract m r.size) := by rw [hC.out, hst]; simp
      have HC := Lib.hid hC2
      have HSZ := Lib.hid (show (r.extract m r.size).size = r.size - m by rw [ByteArray.size_extract]; omega)
      obtain ⟨fn, tmps, assign, body, hy, hR⟩ := hY pre (r.extract 0 m) wr hJ (by rw [hC2]; exact List.prefix_append _ _)
      dsimp only [encT] at hy
      have hmif : (if (r.size : Int) < (wd : Int) then (r.size : Int) else (wd : Int)) = (m : Int) := by split <;> omega
      clear hE hn' hr0 hC hC2 hst hm
      gi_wp2
      refine hR.mono ?_
      rintro e W3 ⟨rfl, hJ3⟩
      gi_wp2
      go_roundw
      case measure => simp only [strLen]; rw [HSZ.out]; omega
      case rel => exact ⟨r.extract m r.size, pre ++ [r.extract 0 m], rfl, by rw [HSZ.out]; omega, HC, hJ3⟩
/-- The program's Lines: an iterator over two boxes of its own. -/
def SixPost (s : ByteArray) (wd : Nat) (w : World) (e : Ending) (w' : World) : Prop :=
  ∃ b2 b3, e = .returned (.func (.func 64) #[] #[.pointer (some ⟨b2, 0, none⟩), .pointer (some ⟨b3, 0, none⟩)]) ∧ w.heap.size ≤ b2 ∧ w.heap.size ≤ b3 ∧ b2 < w'.heap.size ∧ b3 < w'.heap.size ∧ w'.cell? ⟨b2, 0, none⟩ = some (.string s) ∧ w'.cell? ⟨b3, 0, none⟩ = some (.int .i64 wd) ∧ Below w.heap.size w w'
set_option maxRecDepth 100000 in
set_option maxHeartbeats 4000000 in
theorem lines_any (s : ByteArray) (wd : Nat) (h1 : 1 ≤ wd) (h2 : wd ≤ 1000) (w : World) : Calls Tryd.prog 39 #[.string s, .int .i64 wd] w (SixPost s wd w) := by
  have hlt : ¬ (wd : Int) < 1 := by omega
  have hle : (1 : Int) ≤ (wd : Int) := by omega
  have hmx : max (wd : Int) 1 = (wd : Int) := by omega
  go_enter Tryd.func39, Tryd.ntmps39
  go_wp2_with fail
  go_ret
  have hb1 : Below w.heap.size w (w.alloc (.cells #[.string s] 9)) := (Below.refl _ w).alloc (Nat.le_refl _) _
  have hb2 := hb1.alloc hb1.size (.cells #[.int .i64 wd] 3)
  refine ⟨w.heap.size, w.heap.size + 1, rfl, Nat.le_refl _, by omega, by simp; omega, by simp, ?_, ?_, hb2⟩
  · have h2 : Below (w.alloc (.cells #[.string s] 9)).heap.size (w.alloc (.cells #[.string s] 9)) ((w.alloc (.cells #[.string s] 9)).alloc (.cells #[.int .i64 wd] 3)) := (Below.refl _ _).alloc (Nat.le_refl _) _
    rw [h2.cell (p := ⟨w.heap.size, 0, none⟩) (by simp)]
    simp [go_sem]
  · have e : (w.alloc (.cells #[.string s] 9)).heap.size = w.heap.size + 1 := by simp
    rw [← e]
    simp [go_sem]
end Go.Proofs.YtcfbmfcobpfcjaaDoor
