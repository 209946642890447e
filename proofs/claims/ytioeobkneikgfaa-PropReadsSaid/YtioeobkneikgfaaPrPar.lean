/- A parameter of a text: the program's. -/
import Derived.Test.YtioeobkneikgfaaPrLine
import Derived.Deep.RegionLaw
namespace Go.Proofs.Ytioeobkneikgfaa
open Go.RowKit Lift
set_option linter.unusedSimpArgs false
set_option linter.unusedVariables false

def parX (s : ByteArray) (a b : Nat) : Par := if findL s a b 61 < b then (upS (s.extract a (findL s a b 61)), s.extract (findL s a b 61 + 1) b) else (⟨#[]⟩, upS (s.extract a b))
def okX (s : ByteArray) (a b : Nat) : Bool := isPar (parX s a b) && decide (findL s a b 61 ≠ a)
theorem upS_size (s : ByteArray) : (upS s).size = s.size := by
  have : (upS s).size = (s.data.toList.map upB).length := by show (s.data.toList.map upB).toArray.size = _; simp
  rw [this]; simp
def OneParPost (s : ByteArray) (a b : Nat) (w : World) (e : Ending) (w' : World) : Prop := ∃ y : Par, e = .returned (.tuple #[encPar y, .bool (okX s a b)]) ∧ (okX s a b = true → y = parX s a b) ∧ Below w.heap.size w w'

/-- Two boxes of a call's own: at b2 what it hands back, at b4 a parameter. -/
structure TB (b2 b4 : Nat) (B0 : World) (p q : Par) (w : World) : Prop where
  cells : w.cell? ⟨b2, 0, none⟩ = some (.string p.1) ∧ w.cell? ⟨b2, 1, none⟩ = some (.string p.2) ∧ w.cell? ⟨b4, 0, none⟩ = some (.string q.1) ∧ w.cell? ⟨b4, 1, none⟩ = some (.string q.2)
  free : (∀ k, w.frozen? ⟨b2, k, none⟩ = false) ∧ ∀ k, w.frozen? ⟨b4, k, none⟩ = false
  lt : b2 < b4 ∧ b4 < w.heap.size
  base : B0.heap.size = b2
  below : Below b2 B0 w
theorem TB.next {b2 b4 : Nat} {B0 : World} {p q : Par} {w w' : World} (h : TB b2 b4 B0 p q w) (hb : Below w.heap.size w w') : TB b2 b4 B0 p q w' := by
  obtain ⟨hc, hf⟩ := bcell hb
  have hz := hb.size
  obtain ⟨⟨c0, c1, c2, c3⟩, ⟨f0, f1⟩, ⟨l1, l2⟩, hB, hbl⟩ := h
  exact ⟨⟨by rw [hc _ _ (by omega)]; exact c0, by rw [hc _ _ (by omega)]; exact c1, by rw [hc _ _ (by omega)]; exact c2, by rw [hc _ _ (by omega)]; exact c3⟩,
    ⟨fun k => by rw [hf _ _ (by omega)]; exact f0 k, fun k => by rw [hf _ _ (by omega)]; exact f1 k⟩, ⟨l1, by omega⟩, hB, hbl.trans (hb.mono (by omega))⟩
theorem TB.mk0 {w w1 : World} {p q : Par} (hb1 : Below (w.heap.size + 1) (w.alloc (.cells #[.string p.1, .string p.2] 42)) w1) : TB w.heap.size w1.heap.size w p q (w1.alloc (.cells #[.string q.1, .string q.2] 42)) := by
  obtain ⟨hc, hf⟩ := bcell hb1
  have hz := hb1.size
  rw [World.size_alloc] at hz
  obtain ⟨hca, hfa⟩ := bcell ((Below.refl w1.heap.size w1).alloc (Nat.le_refl _) (.cells #[.string q.1, .string q.2] 42))
  refine ⟨⟨?_, ?_, ?_, ?_⟩, ⟨fun k => ?_, fun k => ?_⟩, ⟨by omega, by simp⟩, rfl, ?_⟩
  · rw [hca _ _ (by omega), hc _ _ (by omega)]; simp [go_sem]
  · rw [hca _ _ (by omega), hc _ _ (by omega)]; simp [go_sem]
  · simp [go_sem]
  · simp [go_sem]
  · rw [hfa _ _ (by omega), hf _ _ (by omega)]; simp [go_sem]
  · simp [go_sem]
  · exact (((Below.refl _ w).alloc (Nat.le_refl _) _).trans (hb1.mono (by omega))).alloc (by omega) _

theorem TB.put {b2 b4 : Nat} {B0 : World} {p q : Par} {w : World} (h : TB b2 b4 B0 p q w) (r : Par) : TB b2 b4 B0 p r ((w.setCell ⟨b4, 0, none⟩ (.string r.1)).setCell ⟨b4, 1, none⟩ (.string r.2)) := by
  obtain ⟨⟨c0, c1, c2, c3⟩, ⟨f0, f1⟩, ⟨l1, l2⟩, hB, hbl⟩ := h
  have hne : b2 ≠ b4 := by omega
  have hne2 : b4 ≠ b2 := by omega
  have hK : Kept (fun k => k = b4) w ((w.setCell ⟨b4, 0, none⟩ (.string r.1)).setCell ⟨b4, 1, none⟩ (.string r.2)) := (Kept.setCell (X := (· = b4)) w (p := ⟨b4, 0, none⟩) rfl _).trans (Kept.setCell (X := (· = b4)) _ (p := ⟨b4, 1, none⟩) rfl _) (fun _ _ h => h) (fun _ _ h => h)
  refine ⟨⟨?_, ?_, ?_, ?_⟩, ⟨fun k => ?_, fun k => ?_⟩, ⟨l1, by simpa using l2⟩, hB, hbl.trans (hK.below (by omega) (fun k hk => by omega))⟩
  · exact (hK.cell (p := ⟨b2, 0, none⟩) (by show b2 < _; omega) hne).trans c0
  · exact (hK.cell (p := ⟨b2, 1, none⟩) (by show b2 < _; omega) hne).trans c1
  · rw [World.cell?_setCell_other _ _ _ _ (by intro e; injection e with _ e; cases e)]
    exact World.cell?_setCell_same _ _ _ c2
  · exact World.cell?_setCell_same _ _ _ ((World.cell?_setCell_other _ _ _ _ (by intro e; injection e with _ e; cases e)).trans c3)
  · rw [World.frozen?_setCell, World.frozen?_setCell]; exact f0 k
  · rw [World.frozen?_setCell, World.frozen?_setCell]; exact f1 k

set_option maxHeartbeats 8000000 in
set_option maxRecDepth 100000 in
theorem param1_any (s : ByteArray) (a b : Nat) (w : World) (h1 : a ≤ b) (h2 : b ≤ s.size) (hs : s.size ≤ 100000) : Calls Try.prog 43 #[.string (s.extract a b)] w (OneParPost s a b w) := by
  have hsz := seg_size s (a := a) h2
  have hle := findL_le s a b 61 h1 h2
  have HCut := Lib.hid (fun w => cut_any (s.extract a b) 61 w (by omega))
  have HCap := Lib.hid (fun w => capitals_any (s.extract a b) w (by omega))
  rw [cut_ext s a b 61 h1 h2] at HCut
  by_cases hq : findL s a b 61 < b
  · rw [if_pos hq] at HCut
    have hqs := seg_size s (a := a) (b := findL s a b 61) (by omega)
    have hX := Lib.hid (show parX s a b = (upS (s.extract a (findL s a b 61)), s.extract (findL s a b 61 + 1) b) by unfold parX; rw [if_pos hq])
    have HCap2 := Lib.hid (fun w => capitals_any (s.extract a (findL s a b 61)) w (by omega))
    have hO : okX s a b = (isPar (parX s a b) && decide (findL s a b 61 ≠ a)) := rfl
    rw [hX.out] at hO
    have hnz : (upS (s.extract a (findL s a b 61))).size = findL s a b 61 - a := by rw [upS_size]; exact hqs
    generalize s.extract a b = x at HCut HCap ⊢
    generalize s.extract a (findL s a b 61) = x1 at *
    generalize s.extract (findL s a b 61 + 1) b = x2 at *
    have HR := Lib.hid (right_any (upS x1, x2))
    obtain ⟨u, hu⟩ : ∃ u, upS x = u := ⟨_, rfl⟩
    rw [hu] at HCap
    obtain ⟨u1, hu1⟩ : ∃ u, upS x1 = u := ⟨_, rfl⟩
    rw [hu1] at HCap2 HR hX hO hnz
    clear hsz hu hu1 hqs
    unfold CutPost at HCut
    unfold encPar at HR
    have he := empty_iff u1
    have HO := Lib.hid hO
    clear hO
    by_cases hqa : findL s a b 61 = a
    case' pos =>
      have hO := Lib.hid (show okX s a b = false by rw [HO.out, decide_eq_false (by omega), Bool.and_false])
      rw [decide_eq_true (by omega)] at he
    case' neg =>
      have hO := Lib.hid (show okX s a b = isPar (u1, x2) by rw [HO.out, decide_eq_true hqa, Bool.and_true])
      rw [decide_eq_false (by omega)] at he
    all_goals
      clear hq hqa hnz HO hle
      go_enter Try.func43, Try.ntmps43
      go_wp2_with fail
      refine (HCap.out _).mono ?_
      rintro e w1 ⟨rfl, hb1⟩
      go_wp2_with fail
      have hT := TB.mk0 (p := (⟨#[]⟩, ⟨#[]⟩)) (q := (⟨#[]⟩, u)) (by rw [World.size_alloc] at hb1; exact hb1)
      clear hb1
      refine (HCut.out _).mono ?_
      rintro e w2 ⟨rfl, hb2⟩
      replace hT := (hT.next hb2)
      clear hb2
      go_wp2_with fail
      refine (HCap2.out _).mono ?_
      rintro e w3 ⟨rfl, hb3⟩
      replace hT := (hT.next hb3)
      clear hb3
      have hT1 := hT
      obtain ⟨⟨x0, x1, y0, y1⟩, ⟨f0, f1⟩, ⟨hl1, hl2⟩, _, _⟩ := hT1
      go_wp2_with fail
    · replace hT := hT.put (u1, x2)
      generalize (w3.setCell ⟨w1.heap.size, 0, none⟩ (.string u1)).setCell ⟨w1.heap.size, 1, none⟩ (.string x2) = w4 at hT ⊢
      clear x0 x1 y0 y1 f0 f1 hl1 hl2
      have hT2 := hT.next ((Below.refl _ _).drew)
      obtain ⟨⟨x0, x1, y0, y1⟩, ⟨f0, f1⟩, ⟨hl1, hl2⟩, _, _⟩ := hT2
      go_region_law (go_simp; go_at_call 33; refine (HR.out _).mono ?_; rintro e w3 ⟨rfl, hb3⟩; have hT3 := (hT.next ((Below.refl _ _).drew)).next hb3; have hbl := hT3.below; obtain ⟨⟨x0, x1, y0, y1⟩, ⟨f0, f1⟩, ⟨hl1, hl2⟩, _, _⟩ := hT3)
      all_goals
        go_wp2_with fail
        refine bodyPost_ret (v := .tuple #[encPar (u1, x2), .bool (isPar (u1, x2))]) (by simp [results, Try.results43, go_sem, encPar, x0, x1]) rfl ?_
        have hKf : ∀ wf, Kept (fun k => k = w.heap.size) w3 wf → OneParPost s a b w (.returned (.tuple #[encPar (u1, x2), .bool (isPar (u1, x2))])) wf := fun wf hk => ⟨_, by rw [hO.out], fun _ => hX.out.symm, hbl.trans (hk.below hbl.size (fun k h => Nat.le_of_eq h.symm))⟩
        refine hKf _ ?_
        ((repeat (with_reducible refine Kept.set ?_ (by first | omega | (constructor <;> (first | omega | (simp; omega) | (simp; done))) | (simp; omega) | (simp; done)))); with_reducible exact Kept.refl _ _)
    · have hbl := hT.below
      refine bodyPost_ret (v := .tuple #[encPar (⟨#[]⟩, ⟨#[]⟩), .bool false]) (by simp [results, Try.results43, go_sem, encPar, x0, x1]) rfl ?_
      have hKf : ∀ wf, Kept (fun k => k = w.heap.size ∨ k = w1.heap.size) w3 wf → OneParPost s a b w (.returned (.tuple #[encPar (⟨#[]⟩, ⟨#[]⟩), .bool false])) wf := fun wf hk => ⟨_, by rw [hO.out], (by rw [hO.out]; intro h; cases h), hbl.trans (hk.below hbl.size (fun k h => by omega))⟩
      refine hKf _ ?_
      ((repeat (with_reducible refine Kept.set ?_ (by first | omega | (constructor <;> (first | omega | (simp; omega) | (simp; done))) | (simp; omega) | (simp; done)))); with_reducible exact Kept.refl _ _)
  · rw [if_neg hq] at HCut
    have hX := Lib.hid (show parX s a b = (⟨#[]⟩, upS (s.extract a b)) by unfold parX; rw [if_neg hq])
    have hO := Lib.hid (show okX s a b = isPar (⟨#[]⟩, upS (s.extract a b)) by
      unfold okX; rw [hX.out]
      by_cases hab : a = b
      · have hz : (upS (s.extract a b)).size = 0 := by rw [upS_size, hsz]; omega
        have : isValue (upS (s.extract a b)) = false := by unfold isValue fits; rw [decide_eq_false (by omega)]; rfl
        unfold isPar; rw [this, Bool.and_false, Bool.false_and]
      · rw [decide_eq_true (by omega), Bool.and_true])
    generalize s.extract a b = x at HCut HCap hX hO ⊢
    have HR := Lib.hid (right_any (⟨#[]⟩, upS x))
    obtain ⟨u, hu⟩ : ∃ u, upS x = u := ⟨_, rfl⟩
    rw [hu] at HCap HR hX hO
    clear hq hsz hle hu
    unfold CutPost at HCut
    unfold encPar at HR
    go_enter Try.func43, Try.ntmps43
    go_wp2_with fail
    refine (HCap.out _).mono ?_
    rintro e w1 ⟨rfl, hb1⟩
    obtain ⟨hc1, hf1⟩ := bcell hb1
    have hz1 := bsize hb1
    simp only [World.size_alloc] at hc1 hf1 hz1
    have hB1 := chain ((Below.refl _ w).alloc (Nat.le_refl _) _) hb1
    go_wp2_with fail
    have hT := TB.mk0 (p := (⟨#[]⟩, ⟨#[]⟩)) (q := (⟨#[]⟩, u)) (by rw [World.size_alloc] at hb1; exact hb1)
    clear hc1 hf1 hz1 hb1 hB1
    refine (HCut.out _).mono ?_
    rintro e w2 ⟨rfl, hb2⟩
    replace hT := (hT.next hb2)
    have hT2 := hT.next ((Below.refl _ _).drew)
    clear hb2
    obtain ⟨⟨x0, x1, y0, y1⟩, ⟨f0, f1⟩, ⟨hl1, hl2⟩, _, _⟩ := hT2
    go_wp2_with fail
    go_region_law (go_simp; go_at_call 33; refine (HR.out _).mono ?_; rintro e w3 ⟨rfl, hb3⟩; have hT3 := (hT.next ((Below.refl _ _).drew)).next hb3; have hbl := hT3.below; obtain ⟨⟨x0, x1, y0, y1⟩, ⟨f0, f1⟩, ⟨hl1, hl2⟩, _, _⟩ := hT3)
    all_goals
      go_wp2_with fail
      refine bodyPost_ret (v := .tuple #[encPar (⟨#[]⟩, u), .bool (isPar (⟨#[]⟩, u))]) (by simp [results, Try.results43, go_sem, encPar, x0, x1]) rfl ?_
      have hKf : ∀ wf, Kept (fun k => k = w.heap.size) w3 wf → OneParPost s a b w (.returned (.tuple #[encPar (⟨#[]⟩, u), .bool (isPar (⟨#[]⟩, u))])) wf := fun wf hk => ⟨_, by rw [hO.out], fun _ => hX.out.symm, hbl.trans (hk.below hbl.size (fun k h => Nat.le_of_eq h.symm))⟩
      refine hKf _ ?_
      ((repeat (with_reducible refine Kept.set ?_ (by first | omega | (constructor <;> (first | omega | (simp; omega) | (simp; done))) | (simp; omega) | (simp; done)))); with_reducible exact Kept.refl _ _)
end Go.Proofs.Ytioeobkneikgfaa
