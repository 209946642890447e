/- A line that is read: the document's Parse. -/
import Derived.Test.YtioeobkneikgfaaPrPure
import Derived.Deep.RegionLaw
import Derived.IntWalk
namespace Go.Proofs.Ytioeobkneikgfaa
open Go.RowKit Lift
set_option linter.unusedSimpArgs false
set_option linter.unusedVariables false

/-- .. and a parameter's box beside it. -/
structure FC (b2 b8 bx : Nat) (B0 : World) (g n : ByteArray) (vps : Value) (ps : List Par) (v : ByteArray) (q : Par) (w : World) : Prop where
  fb : FB b2 b8 B0 g n vps ps v w
  cells : w.cell? ⟨bx, 0, none⟩ = some (.string q.1) ∧ w.cell? ⟨bx, 1, none⟩ = some (.string q.2)
  free : ∀ k, w.frozen? ⟨bx, k, none⟩ = false
  lt : b8 < bx ∧ bx < w.heap.size
  apart : ∀ k, vps.ownBlock = some k → k ≠ bx
theorem FC.next {b2 b8 bx : Nat} {B0 : World} {g n : ByteArray} {vps : Value} {ps : List Par} {v : ByteArray} {q : Par} {w w' : World} (h : FC b2 b8 bx B0 g n vps ps v q w) (hb : Below w.heap.size w w') : FC b2 b8 bx B0 g n vps ps v q w' := by
  obtain ⟨hc, hf⟩ := bcell hb
  have hz := hb.size
  obtain ⟨hB, ⟨c0, c1⟩, f0, ⟨l1, l2⟩, ha⟩ := h
  exact ⟨hB.next hb, ⟨by rw [hc _ _ (by omega)]; exact c0, by rw [hc _ _ (by omega)]; exact c1⟩, fun k => by rw [hf _ _ (by omega)]; exact f0 k, ⟨l1, by omega⟩, ha⟩
theorem contains_odd (a : UInt8) : ([0, 10, 13] : List UInt8).contains a = oddB a.toNat := by
  unfold oddB
  rw [Bool.eq_iff_iff, decide_eq_true_eq]
  have h : ∀ k : UInt8, (a = k ↔ a.toNat = k.toNat) := fun k => UInt8.toNat_inj.symm
  simp only [List.contains_cons, List.contains_nil, Bool.or_eq_true, beq_iff_eq, Bool.or_false]
  exact or_congr (h 0) (or_congr (h 10) (h 13))
theorem FC.mk0 {b2 b8 : Nat} {B0 : World} {g n : ByteArray} {vps : Value} {ps : List Par} {v : ByteArray} {w : World} (h : FB b2 b8 B0 g n vps ps v w) (q : Par) : FC b2 b8 w.heap.size B0 g n vps ps v q (w.alloc (.cells #[.string q.1, .string q.2] 42)) := by
  have hl := h.lt
  have hO := h.own.lt
  refine ⟨h.next ((Below.refl _ _).alloc (Nat.le_refl _) _), ⟨?_, ?_⟩, fun k => ?_, ⟨by omega, by simp⟩, fun k hk => by have := (hO k hk).2; omega⟩
  all_goals (simp [go_sem])
theorem FB.keptX {X : Nat → Prop} {b2 b8 : Nat} {B0 : World} {g n : ByteArray} {vps : Value} {ps : List Par} {v : ByteArray} {w w' : World} (h : FB b2 b8 B0 g n vps ps v w) (hk : Kept X w w') (h8 : ∀ k, X k → b8 < k) (hv : ∀ k, vps.ownBlock = some k → ¬ X k) : FB b2 b8 B0 g n vps ps v w' := by
  have hA := h.fa.kept (hk.wide (fun k _ e => by have := h8 k e; have := h.lt.1; omega))
  obtain ⟨_, ⟨c0, c1, c2, c3, c4⟩, f0, ⟨l1, l2⟩, hO⟩ := h
  have hn : ¬ X b8 := fun e => by have := h8 _ e; omega
  have hz := hk.size
  exact ⟨hA, ⟨(hk.cell (p := ⟨b8, 0, none⟩) l2 hn).trans c0, (hk.cell (p := ⟨b8, 1, none⟩) l2 hn).trans c1, (hk.cell (p := ⟨b8, 2, none⟩) l2 hn).trans c2, (hk.cell (p := ⟨b8, 3, none⟩) l2 hn).trans c3, (hk.cell (p := ⟨b8, 4, none⟩) l2 hn).trans c4⟩,
    fun k => (hk.frozen (p := ⟨b8, k, none⟩) l2 hn).trans (f0 k), ⟨l1, by omega⟩, hO.flat par_flat hk hv⟩
theorem FC.put {b2 b8 bx : Nat} {B0 : World} {g n : ByteArray} {vps : Value} {ps : List Par} {v : ByteArray} {q : Par} {w : World} (h : FC b2 b8 bx B0 g n vps ps v q w) (r : Par) : FC b2 b8 bx B0 g n vps ps v r ((w.setCell ⟨bx, 0, none⟩ (.string r.1)).setCell ⟨bx, 1, none⟩ (.string r.2)) := by
  obtain ⟨hB, ⟨c0, c1⟩, f0, ⟨l1, l2⟩, ha⟩ := h
  have hK : Kept (fun k => k = bx) w ((w.setCell ⟨bx, 0, none⟩ (.string r.1)).setCell ⟨bx, 1, none⟩ (.string r.2)) := (Kept.setCell (X := (· = bx)) w (p := ⟨bx, 0, none⟩) rfl _).set rfl
  refine ⟨hB.keptX hK (fun k e => by omega) ha, ⟨?_, ?_⟩, fun k => ?_, ⟨l1, by simpa using l2⟩, ha⟩
  · rw [World.cell?_setCell_other _ _ _ _ (by intro e; injection e with _ e; cases e)]
    exact World.cell?_setCell_same _ _ _ c0
  · exact World.cell?_setCell_same _ _ _ ((World.cell?_setCell_other _ _ _ _ (by intro e; injection e with _ e; cases e)).trans c1)
  · rw [World.frozen?_setCell, World.frozen?_setCell]; exact f0 k
end Go.Proofs.Ytioeobkneikgfaa
