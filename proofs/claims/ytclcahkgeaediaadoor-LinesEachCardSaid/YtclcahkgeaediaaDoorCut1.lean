/- strings.Cut at a separator of one byte. -/
import Derived.Test.YtclcahkgeaediaaDoorRows
import Derived.Handy
import Derived.Lib.Hide
import Derived.BigQuiet
import Derived.WalkSpells
import Derived.WalkLawsBesides
import Derived.Lib.IndexLaws
import Derived.Test.YtclcahkgeaediaaDoorRd2
import Derived.Test.YtclcahkgeaediaaDoorShelf
namespace Go.Proofs.YtclcahkgeaediaaDoor
open Go.RowKit Lift
set_option linter.unusedSimpArgs false
set_option linter.unusedVariables false

theorem nil_of {s : ByteArray} (h : ¬ 0 < s.size) : s.data.toList = [] := by
  apply List.eq_nil_of_length_eq_zero
  have h2 : s.data.toList.length = s.size := by simp
  omega
/-- A text cut at a byte: ahead of it, behind it, whether it is there. -/
def cutB (s : ByteArray) (c : UInt8) : ByteArray × ByteArray × Bool :=
  if 0 ≤ Lib.indexByte s.data.toList c then (s.extract 0 (Lib.indexByte s.data.toList c).toNat, s.extract ((Lib.indexByte s.data.toList c).toNat + 1) s.size, true) else (s, ⟨#[]⟩, false)
def CutPost (x : ByteArray × ByteArray × Bool) (w : World) (e : Ending) (w' : World) : Prop := e = .returned (.tuple #[.string x.1, .string x.2.1, .bool x.2.2]) ∧ Below w.heap.size w w'
theorem idxB (s : ByteArray) (c : UInt8) : Lib.indexByte s.data.toList c = -1 ∨ ∃ i : Nat, Lib.indexByte s.data.toList c = i ∧ i < s.size := by
  have h := Lib.indexByte_ge s.data.toList c
  by_cases h1 : Lib.indexByte s.data.toList c = -1
  · exact .inl h1
  · obtain ⟨i, hi⟩ := Int.eq_ofNat_of_zero_le (show 0 ≤ Lib.indexByte s.data.toList c by omega)
    refine .inr ⟨i, hi, ?_⟩
    have := (Lib.indexByte_some hi).1
    have := (List.getElem?_eq_some_iff.1 this).1
    simpa using this
theorem cutB_none {s : ByteArray} {c : UInt8} (h : Lib.indexByte s.data.toList c = -1) : cutB s c = (s, ⟨#[]⟩, false) := by unfold cutB; rw [h, if_neg (by omega)]
theorem cutB_some {s : ByteArray} {c : UInt8} {i : Nat} (h : Lib.indexByte s.data.toList c = i) : cutB s c = (s.extract 0 i, s.extract (i + 1) s.size, true) := by unfold cutB; rw [h, if_pos (by omega)]; simp

set_option maxHeartbeats 1000000 in
set_option maxRecDepth 100000 in
theorem cut_lite (s : ByteArray) (c : UInt8) (w : World) (hs : s.size ≤ 1000000) : Calls Tryd.prog 43 #[.string s, .string ⟨#[c]⟩] w (CutPost (cutB s c) w) := by
  have HI := Lib.hid (fun wx => Tryd.stringslite_Index_one s c wx)
  rcases idxB s c with h | ⟨i, h, hi⟩
  · rw [cutB_none h]
    rw [h] at HI
    clear h
    go_enter Tryd.func43, Tryd.ntmps43
    go_wp2_with fail
    refine (HI.out _).mono ?_
    rintro e w1 ⟨rfl, rfl⟩
    go_wp2_with fail
    go_ret3
    exact ⟨rfl, Below.refl _ _⟩
  · rw [cutB_some h]
    rw [h] at HI
    clear h
    have hi2 : (i : Int) ≤ (s.size : Int) := by omega
    have hi3 : (i : Int) + 1 ≤ (s.size : Int) := by omega
    go_enter Tryd.func43, Tryd.ntmps43
    go_wp2_with fail
    refine (HI.out _).mono ?_
    rintro e w1 ⟨rfl, rfl⟩
    go_wp2_with fail
    (refine wp_region_quiet_lit (by kernel_rfl) (by kernel_rfl) ?_; (repeat (any_goals (first | go_big_quiet_step (fail) | quiet_step (fail) | (refine wpQuiet_step (fun K hK => ?_); go_simp; split <;> (refine hK _ ?_; clear hK K))))); all_goals (refine wpQuiet_nil ?_; intro _ hw'; obtain ⟨nq, hw''⟩ := hw'; subst hw''))
    go_wp2_with fail
    go_ret3
    exact ⟨rfl, bN _ (Below.refl _ _)⟩
set_option maxHeartbeats 1000000 in
set_option maxRecDepth 100000 in
theorem cut_any (s : ByteArray) (c : UInt8) (w : World) (hs : s.size ≤ 1000000) : Calls Tryd.prog 31 #[.string s, .string ⟨#[c]⟩] w (CutPost (cutB s c) w) := by
  have HC := Lib.hid (cut_lite s c w hs)
  go_enter Tryd.func31, Tryd.ntmps31
  go_wp2_with fail
  refine HC.out.mono ?_
  rintro e w1 ⟨rfl, hb1⟩
  go_wp2_with fail
  go_ret3
  exact ⟨rfl, hb1⟩
end Go.Proofs.YtclcahkgeaediaaDoor
