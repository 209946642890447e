/- A builder that holds a text, and cells beside it that stand. -/
import Derived.Test.YtcfbmfcobpfcjaaDoorBuilder
namespace Go.Proofs.YtcfbmfcobpfcjaaDoor
open Go.RowKit Lift
set_option linter.unusedSimpArgs false
set_option linter.unusedVariables false

def BK (base b : Nat) (ps : List (Nat × Nat × Value)) (w0 : World) (l : List UInt8) (w : World) : Prop :=
  base ≤ b ∧ (∃ x, Buf b x l w ∧ ∀ j, x = some j → base ≤ j ∧ ∀ q ∈ ps, q.1 ≠ j) ∧ Below base w0 w ∧ base ≤ w.heap.size ∧ ∀ q ∈ ps, q.1 ≠ b ∧ q.1 < w.heap.size ∧ w.cell? ⟨q.1, q.2.1, none⟩ = some q.2.2

theorem BK.write {base b : Nat} {ps : List (Nat × Nat × Value)} {w0 w : World} {l : List UInt8} (h : BK base b ps w0 l w) (s : ByteArray) (hlen : l.length + s.size ≤ 140737488355328) :
    Calls Tryd.prog 22 #[.pointer (some ⟨b, 0, none⟩), .string s] w fun e w' => e = .returned (.tuple #[.int .i64 s.size, .nilIface]) ∧ BK base b ps w0 (l ++ s.data.toList) w' := by
  obtain ⟨hbb, ⟨x, hB, hx⟩, hb, hsz, hp⟩ := h
  refine (writeString_any b x l s w hB hlen).mono ?_
  rintro e w1 ⟨rfl, x1, hB1, hk1, hx1⟩
  have hs1 := hk1.size
  refine ⟨rfl, hbb, ⟨x1, hB1, fun j hj => ?_⟩, hb.trans (hk1.below hsz (fun k hk => ?_)), by omega, fun q hq => ?_⟩
  · rcases hx1 with h | ⟨g, h, hg⟩
    · exact hx j (by rw [← h]; exact hj)
    · rw [h] at hj; cases hj
      exact ⟨by omega, fun q hq => by have := (hp q hq).2.1; omega⟩
  · rcases hk with rfl | hk
    · exact hbb
    · exact (hx k hk.symm).1
  · obtain ⟨h1, h2, h3⟩ := hp q hq
    refine ⟨h1, by omega, ?_⟩
    rw [hk1.cell (p := ⟨q.1, q.2.1, none⟩) h2 (by
      rintro (h | h)
      · exact h1 h
      · exact (hx _ h.symm).2 q hq rfl)]
    exact h3
theorem BK.string {base b : Nat} {ps : List (Nat × Nat × Value)} {w0 w : World} {l : List UInt8} (h : BK base b ps w0 l w) :
    Calls Tryd.prog 23 #[.pointer (some ⟨b, 0, none⟩)] w fun e w' => e = .returned (.string ⟨l.toArray⟩) ∧ Below base w0 w' := by
  obtain ⟨hbb, ⟨x, hB, hx⟩, hb, hsz, hp⟩ := h
  refine (bufString_any base b x l w hB hbb (fun k hk => (hx k hk).1)).mono ?_
  rintro e w1 ⟨rfl, hb1⟩
  exact ⟨rfl, hb.trans hb1⟩
theorem BK.fresh (w : World) : BK w.heap.size w.heap.size [] w [] (w.alloc (.cells #[.pointer none, .slice none 0 0] 50)) :=
  ⟨Nat.le_refl _, ⟨none, Buf.fresh w, fun j h => by cases h⟩, (Below.refl _ _).alloc (Nat.le_refl _) _, by simp, fun q h => by cases h⟩
theorem BK.drop {base b : Nat} {ps : List (Nat × Nat × Value)} {w0 w : World} {l : List UInt8} (h : BK base b ps w0 l w) : BK base b [] w0 l w :=
  ⟨h.1, ⟨h.2.1.choose, h.2.1.choose_spec.1, fun j hj => ⟨(h.2.1.choose_spec.2 j hj).1, fun q hq => by cases hq⟩⟩, h.2.2.1, h.2.2.2.1, fun q hq => by cases hq⟩
theorem BK.lt {base b : Nat} {ps : List (Nat × Nat × Value)} {w0 w : World} {l : List UInt8} (h : BK base b ps w0 l w) : b < w.heap.size := h.2.1.choose_spec.1.lt.1
/-- What is new beside it. -/
theorem BK.next {base b : Nat} {ps : List (Nat × Nat × Value)} {w0 w w' : World} {l : List UInt8} (h : BK base b ps w0 l w) (hb : Below w.heap.size w w') : BK base b ps w0 l w' := by
  obtain ⟨hbb, ⟨x, hB, hx⟩, hbl, hsz, hp⟩ := h
  have hs := hb.size
  exact ⟨hbb, ⟨x, hB.below hb, hx⟩, hbl.trans (hb.mono hsz), by omega, fun q hq => ⟨(hp q hq).1, by have := (hp q hq).2.1; omega, (hb.cell (p := ⟨q.1, q.2.1, none⟩) (hp q hq).2.1).trans (hp q hq).2.2⟩⟩
end Go.Proofs.YtcfbmfcobpfcjaaDoor
