/- Copy. -/
import Derived.Test.YtaljgcdjkmpljaaDoorPl6
namespace Go.Proofs.YtaljgcdjkmpljaaDoor
open Go.RowKit Lift
set_option linter.unusedSimpArgs false
set_option linter.unusedVariables false

theorem sec_one : ∀ S w cs c, rSec.rel S w cs c → ∀ u ∈ cs, u.oneCell' = true := by
  rintro S w cs c ⟨rfl, _⟩ u hu; exact cs_one _ u hu
theorem wr_ones : ∀ S w cs c, rWr.rel S w cs c → ∀ u ∈ cs, u.oneCell' = true := by
  rintro S w cs c ⟨rfl, _⟩ u hu; exact wr_one _ u hu
theorem own_some {α : Type} {r : Rd α} {S : Nat → Prop} {w : World} {base : Nat} {e : TypeId} {v : Value} {l : List α} (h : Own r S w base e v l) (hl : l ≠ []) : ∃ g cap, v = .slice (some ⟨g, 0, none⟩) l.length cap := by
  obtain ⟨ao, cap, rfl⟩ := h.form
  have hn : Value.ownBlock (.slice ao l.length cap) ≠ none := by
    obtain ⟨xs, h1, _⟩ := h
    rcases h1.2 with ⟨e1, e2⟩ | ⟨g, cap', cur, e1, _⟩
    · exact absurd (List.eq_nil_of_length_eq_zero e2) hl
    · injection e1 with e1; subst e1; simp [Value.ownBlock]
  obtain ⟨g, rfl⟩ := h.block hn
  exact ⟨g, cap, rfl⟩
theorem Kept.push2 {w w' : World} {o : Obj} {n cap : Nat} (hk : Kept (fun k => some k = Value.ownBlock (.slice (some ⟨w.heap.size, 0, none⟩) n cap)) (w.alloc o) w') : Kept (fun k => w.heap.size ≤ k) w w' :=
  (Kept.alloc (fun _ => False) w o).trans hk (fun _ _ h => h.elim) (fun _ _ h => by injection h with h; exact Nat.le_of_eq h.symm)
theorem own_lo {w : World} {base : Nat} {v : Value} {l : List Wr} (h : Own rWr (fun _ => True) w base 89 v l) (hl : l ≠ []) : ∃ g cap, v = .slice (some ⟨g, 0, none⟩) l.length cap := own_some h hl
/-- A row of loose writes, nil where there is none. -/
def LoPost (l : List Wr) (w : World) (x : Ending) (w' : World) : Prop := ∃ ao cap, x = .returned (.slice ao l.length cap) ∧ Own rWr (fun _ => True) w' w.heap.size 89 (.slice ao l.length cap) l ∧ Below w.heap.size w w' ∧ (l = [] → Value.slice ao l.length cap = .slice none 0 0)
/-- Another plate of one's own. -/
def CopyPost (st : St) (w : World) (e : Ending) (w' : World) : Prop := ∃ F, e = .returned (.pointer (some ⟨F.b, 0, none⟩)) ∧ Raw w.heap.size w' F st ∧ Below w.heap.size w w'
structure CopyS (base : Nat) (W0 : World) (tb : Nat) (F : Fp) (st : St) (w' : World) : Prop where
  kept : Kept (fun k => k = tb) W0 w'
  raw : Raw base w' F st
  nb : ¬ foot F tb
  lt : tb < W0.heap.size
theorem CopyS.step {base : Nat} {W0 : World} {tb : Nat} {F : Fp} {st : St} {w1 w2 : World} (h : CopyS base W0 tb F st w1) (hb : Below w1.heap.size w1 w2) : CopyS base W0 tb F st w2 :=
  ⟨h.kept.step hb, h.raw.below hb, h.nb, h.lt⟩
theorem CopyS.set {base : Nat} {W0 : World} {tb : Nat} {F : Fp} {st : St} {w1 : World} (h : CopyS base W0 tb F st w1) (i : Nat) (v : Value) : CopyS base W0 tb F st (w1.setCell ⟨tb, i, none⟩ v) :=
  ⟨h.kept.set rfl, h.raw.kept (Kept.setCell (X := fun k => k = tb) w1 (p := ⟨tb, i, none⟩) rfl v) (fun k hk e => by subst e; exact h.nb hk), h.nb, h.lt⟩
def CopyL (base : Nat) (W0 : World) (tb : Nat) (F : Fp) (st : St) (ao : Option Addr) (cap : Nat) (w' : World) : Prop :=
  CopyS base W0 tb F st w' ∧ w'.cell? ⟨F.b, 0, none⟩ = some (.slice (some ⟨F.s, 0, none⟩) st.no.length F.cs) ∧ w'.cell? ⟨F.b, 1, none⟩ = some (.slice (some ⟨F.m, 0, none⟩) st.no.length F.cm) ∧ w'.cell? ⟨F.b, 2, none⟩ = some (.slice ao st.lo.length cap)
theorem CopyS.cells {base : Nat} {W0 : World} {tb : Nat} {F : Fp} {st : St} {ao : Option Addr} {cap : Nat} {w' : World} (h : CopyS base W0 tb F st w') (e : Hid (F.lv = .slice ao st.lo.length cap)) : CopyL base W0 tb F st ao cap w' := by
  obtain ⟨c0, c1, c2, _⟩ := h.raw.cells
  rw [e.out] at c2
  exact ⟨h, c0, c1, c2⟩
theorem copy_end {w w5 w6 w7 W0 wd : World} {base g5 cap5 g6 cap6 cap7 : Nat} {ao7 : Option Addr} {F : Fp} {st : St} (hR : Raw base w F st) (hW0 : W0 = w.alloc (.cells (plCells F st.no.length st) 77)) (hwd : wd.heap = W0.heap ∧ wd.os = W0.os ∧ wd.tape = W0.tape ∧ wd.output = W0.output)
    (hO5 : Own rSec (fun _ => True) w5 wd.heap.size 79 (.slice (some ⟨g5, 0, none⟩) st.su.length cap5) st.su) (hb5 : Below wd.heap.size wd w5)
    (hO6 : Own rSec (fun _ => True) w6 w5.heap.size 79 (.slice (some ⟨g6, 0, none⟩) st.no.length cap6) st.no) (hb6 : Below w5.heap.size w5 w6)
    (hO7 : Own rWr (fun _ => True) w7 w6.heap.size 89 (.slice ao7 st.lo.length cap7) st.lo) (hb7 : Below w6.heap.size w6 w7) (hnil : st.lo = [] → Value.slice ao7 st.lo.length cap7 = .slice none 0 0) :
    CopyPost st w (.returned (.pointer (some ⟨w.heap.size, 0, none⟩))) (((w7.setCell ⟨w.heap.size, 0, none⟩ (.slice (some ⟨g5, 0, none⟩) st.su.length cap5)).setCell ⟨w.heap.size, 1, none⟩ (.slice (some ⟨g6, 0, none⟩) st.no.length cap6)).setCell ⟨w.heap.size, 2, none⟩ (.slice ao7 st.lo.length cap7)) := by
  have hsz : wd.heap.size = w.heap.size + 1 := by rw [hwd.1, hW0]; simp
  have s5 := hb5.size
  have s6 := hb6.size
  have s7 := hb7.size
  have hblk : w7.heap[w.heap.size]? = some (.cells (plCells F st.no.length st) 77 (0, 0)) := by
    rw [hb7.block _ (by omega), hb6.block _ (by omega), hb5.block _ (by omega), hwd.1, hW0]
    exact heap_alloc_new w _
  have l5 := hO5.lt g5 rfl
  have l6 := hO6.lt g6 rfl
  have l7 := hO7.lt
  have hK3 := (((Kept.refl (fun k => k = w.heap.size) w7).set (p := ⟨w.heap.size, 0, none⟩) (u := (.slice (some ⟨g5, 0, none⟩) st.su.length cap5)) rfl).set (p := ⟨w.heap.size, 1, none⟩) (u := (.slice (some ⟨g6, 0, none⟩) st.no.length cap6)) rfl).set (p := ⟨w.heap.size, 2, none⟩) (u := (.slice ao7 st.lo.length cap7)) rfl
  have hW : Below w.heap.size w w7 := by
    have h0 : Below w.heap.size w wd := by
      have : Below w.heap.size w W0 := by rw [hW0]; exact (Below.refl _ _).alloc (Nat.le_refl _) _
      exact ⟨hwd.2.1.trans this.os, hwd.2.2.1.trans this.tape, hwd.2.2.2.trans this.output, by omega, fun k hk => by rw [hwd.1]; exact this.block k hk⟩
    exact ((h0.trans (hb5.mono (by omega))).trans (hb6.mono (by omega))).trans (hb7.mono (by omega))
  refine ⟨⟨w.heap.size, g5, g6, cap5, cap6, .slice ao7 st.lo.length cap7⟩, rfl, ?_, ?_⟩
  · have o5 : Own rSec (fun _ => True) w7 w.heap.size 79 (.slice (some ⟨g5, 0, none⟩) st.no.length cap5) st.su := by
      have := ((hO5.below hb6).below hb7).rebase (base' := w.heap.size) (by omega)
      rw [← hR.sn]; exact this
    have o6 : Own rSec (fun _ => True) w7 w.heap.size 79 (.slice (some ⟨g6, 0, none⟩) st.no.length cap6) st.no := (hO6.below hb7).rebase (by omega)
    have o7 : Own rWr (fun _ => True) w7 w.heap.size 89 (.slice ao7 st.lo.length cap7) st.lo := hO7.rebase (by omega)
    exact {
      n1 := hR.n1
      n2 := hR.n2
      sn := hR.sn
      lat := hR.lat
      fu1 := hR.fu1
      fu2 := hR.fu2
      blk := by
        have b0 := heap_setCell_same w7 w.heap.size 0 _ _ (.slice (some ⟨g5, 0, none⟩) st.su.length cap5) hblk
        have b1 := heap_setCell_same _ w.heap.size 1 _ _ (.slice (some ⟨g6, 0, none⟩) st.no.length cap6) b0
        have b2 := heap_setCell_same _ w.heap.size 2 _ _ (.slice ao7 st.lo.length cap7) b1
        rw [b2, hR.sn]; rfl
      own1 := o5.flat sec_flat hK3 (fun k e => by injection e with e; subst e; show ¬ g5 = w.heap.size; omega)
      own2 := o6.flat sec_flat hK3 (fun k e => by injection e with e; subst e; show ¬ g6 = w.heap.size; omega)
      own3 := o7.flat wr_flat hK3 (fun k e hh => by have := l7 k e; omega)
      bb := Nat.le_refl _
      a1 := by show g5 ≠ w.heap.size; omega
      a2 := by show g6 ≠ w.heap.size; omega
      a3 := by show g5 ≠ g6; omega
      a4 := fun e => by have := l7 _ e; simp only at this; omega
      a5 := fun e => by have := l7 _ e; simp only at this; omega
      a6 := fun e => by have := l7 _ e; simp only at this; omega
      nil := hnil }
  · exact ((hW.setCell (p := ⟨_, _, none⟩) (Nat.le_refl _) _).setCell (p := ⟨_, _, none⟩) (Nat.le_refl _) _).setCell (p := ⟨_, _, none⟩) (Nat.le_refl _) _
end Go.Proofs.YtaljgcdjkmpljaaDoor
