/- What is left of a property without a parameter: the program's. -/
import Derived.Test.YtcfbmfcobpfcjaaDoorPr1
namespace Go.Proofs.YtcfbmfcobpfcjaaDoor
open Go.RowKit Lift
set_option linter.unusedSimpArgs false
set_option linter.unusedVariables false

theorem par_info0 : ∃ i0, Tryd.prog.info? 58 = some i0 ∧ i0.zero = some (.agg #[.string ByteArray.empty, .string ByteArray.empty]) ∧ i0.size = 2 ∧ i0.bytes = 32 := info_parts par_info
set_option maxHeartbeats 1000000 in
set_option maxRecDepth 100000 in
theorem clone_nil (w : World) : Calls Tryd.prog 36 #[.slice none 0 0] w (BelowPost (.slice none 0 0) w) := by
  have heq := fun (w : World) (a : Option Addr) (n c : Nat) => Lib.run_eql_slice_nil (P := Tryd.prog) w 39 58 a n c 0 0 Tryd.underlying39
  go_enter Tryd.func36, Tryd.ntmps36
  go_wp2_with fail
  go_ret
  exact ⟨rfl, Below.refl _ _⟩
set_option maxHeartbeats 1000000 in
set_option maxRecDepth 100000 in
theorem clone_par (a0 : Addr) (cap : Nat) (l : List Par) (w : World) (hl : SlAt rPar (· < w.heap.size) w (some a0) l) (hlen : l.length ≤ 100000) :
    Calls Tryd.prog 36 #[.slice (some a0) l.length cap] w (SomeRow rPar 58 l w) := by
  obtain ⟨i0, hi, hz0, hz1, hz2⟩ := par_info0
  have HI := Lib.hid hi; have HZ0 := Lib.hid hz0; have HZ1 := Lib.hid hz1; have HZ2 := Lib.hid hz2
  clear hi hz0 hz1 hz2
  have heq := fun (w : World) (a : Option Addr) (n c : Nat) => Lib.run_eql_slice_nil (P := Tryd.prog) w 39 58 a n c 0 0 Tryd.underlying39
  go_enter Tryd.func36, Tryd.ntmps36
  go_wp2_with (first
    | (at_builtin; refine wpList_pushAll rPar rfl _ _ 39 rfl w.heap.size 58 i0 _ 32 Tryd.underlying39 HI.out HZ0.out HZ1.out HZ2.out rfl (by decide) (fun _ => True) _ [] rfl (own_made _ _ _ _ _ (by omega)) _ cap l rfl (by intro h; cases h) ((hl.old ((Below.refl _ _).alloc (Nat.le_refl _) _)).apart (fun k hk => by cases hk; exact Nat.le_refl _)) par_one (by unfold maxLen; simp; omega) (by simp; omega) (by simp) ?_; intro v2 w2 hO2 hK2 hw2))
  have hB2 : Below w.heap.size w w2 := (Below.refl _ _).alloc (Nat.le_refl _) _ |>.trans (hK2.below (by simp) (fun k hk => by cases hk; exact Nat.le_refl _))
  have hn : v2.ownBlock ≠ none := by
    rcases hw2 with h | ⟨g, h, _⟩
    · rw [h]; intro h; cases h
    · rw [h]; intro h; cases h
  clear hK2 hw2
  rw [List.nil_append] at hO2
  obtain ⟨ao2, cap2, rfl⟩ := hO2.form
  obtain ⟨g2, rfl⟩ := hO2.block hn
  go_wp2_with fail
  go_ret
  exact ⟨g2, cap2, rfl, hO2, hB2⟩

def PropPost (g n : ByteArray) (l : List Par) (v : ByteArray) (aa : Option Addr) (na ca : Nat) (w : World) (x : Ending) (w' : World) : Prop := ∃ ao cap, x = .returned (propV g n ao l.length cap v aa na ca) ∧ Own rPar (fun _ => True) w' w.heap.size 58 (.slice ao l.length cap) l ∧ Below w.heap.size w w'
end Go.Proofs.YtcfbmfcobpfcjaaDoor
