/- A text's lines, each with those that go on with it: what lines.Each hands back. -/
import Derived.Test.YtclcahkgeaediaaDoorUnfold
import Derived.Test.YtclcahkgeaediaaDoorLin2
namespace Go.Proofs.YtclcahkgeaediaaDoor
open Go.RowKit Go.Shelf Lift
set_option linter.unusedSimpArgs false
set_option linter.unusedVariables false
attribute [local go_sem] Oper.semAt_some

/-- A function value that goes through lines: its box, and the lines that it leads to. -/
def EachPost (l : List ByteArray) (w : World) (e : Ending) (w' : World) : Prop := ∃ B ao cap, e = .returned (.func (.func 26) #[] #[.pointer (some ⟨B, 0, none⟩)]) ∧ w.heap.size ≤ B ∧ B < w'.heap.size ∧ w'.cell? ⟨B, 0, none⟩ = some (.slice ao l.length cap) ∧ l.length ≤ cap ∧ cap ≤ maxLen ∧ SlAt Rd.str (· < w'.heap.size) w' ao l ∧ (∀ a, ao = some a → w.heap.size ≤ a.block) ∧ Below w.heap.size w w'
theorem each_in (n : Nat) (hn : 2 ≤ n) (s : ByteArray) (w : World) (hs : s.size ≤ 100000) :
    CallsIn Fence.wide n Tryd.prog 11 #[.string s] w (EachPost (linesB [] s.data.toList) w) := by
  have h1 : 1 ≤ n := by omega
  have HS := Lib.hid (fun w => callsIn_wide (n := n - 1).2 (split_any s w hs))
  generalize linesB [] s.data.toList = l at *
  refine callsIn_of_wp Tryd.func11 rfl trivial ?_ rfl
  simp only [Tryd.ntmps11, List.size_toArray, List.length_cons, List.length_nil, Nat.reduceAdd, Nat.reduceSub, Array.replicate_succ, Array.replicate_zero, List.push_toArray, List.append_toArray, List.nil_append, List.cons_append]
  have hfS : Fence.wide.fn 18 := trivial
  have hfK : Fence.wide.fn 17 := trivial
  gi_wp2
  refine (HS.out _).mono ?_
  rintro e w1 ⟨ao, cap, rfl, hO, hb⟩
  have hc := hO.cap
  gi_wp2_with (gi_at_call 17; refine (whole_in (n - 1) _ _ _ _).mono ?_; rintro e w' ⟨rfl, rfl⟩)
  go_ret
  have hA : Below w1.heap.size w1 (w1.alloc (.cells #[.slice ao l.length cap] 22)) := (Below.refl _ _).alloc (Nat.le_refl _) _
  exact ⟨w1.heap.size, ao, cap, rfl, hb.size, by simp, by simp [go_sem], hc.1, hc.2.1, (hO.below hA).here, (fun a ha => by
    obtain ⟨xs, h1, _⟩ := hO
    rcases h1.2 with ⟨e, _⟩ | ⟨g, _, _, e, hg, _⟩
    · injection e with e; rw [ha] at e; cases e
    · injection e with e; rw [ha] at e; cases e; exact hg), chain hb hA⟩
theorem each_any (s : ByteArray) (w : World) (hs : s.size ≤ 100000) : Calls Tryd.prog 11 #[.string s] w (EachPost (linesB [] s.data.toList) w) :=
  callsIn_wide.1 (each_in 5 (by omega) s w hs)
end Go.Proofs.YtclcahkgeaediaaDoor
