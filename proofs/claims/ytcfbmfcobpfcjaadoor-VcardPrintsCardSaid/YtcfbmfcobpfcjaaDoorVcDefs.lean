/- Cards: how they lie in memory, at any depth (a type that holds itself). -/
import Derived.Test.YtcfbmfcobpfcjaaDoorPrDefs
namespace Lift
open Go Go.ChangeShapes Go.WideShapes Go.ChangeAt Go.RowKit Go.Deep
set_option linter.unusedSimpArgs false
set_option linter.unusedVariables false
section
variable {H : Type} {enc : TypeId × Value → H} {P : Program} {w : World} {held : Bool}
/-- The reader reads what is of type t, where so much fuel is enough. -/
def Rd.atB {α : Type} (r : Rd α) (P : Program) (t : TypeId) (F : Nat) : Prop := P.cellsOf t = r.n ∧ ∀ (H : Type) (enc : TypeId × Value → H) (w : World) (held : Bool) (fuel : Nat) (cs : List Value) (x : DataW H × List MemPlace), fuel ≤ F → DataW.trod enc P w 0 (fun _ => true) held fuel t cs = some x → (∀ n ∈ x.1.weights P t, n ≤ reachBytes) → ∃ a, r.rel (· < w.heap.size) w cs a
theorem Rd.at.b {α : Type} {r : Rd α} {t : TypeId} (h : r.at P t) (F : Nat) : r.atB P t F := ⟨h.1, fun H enc w held fuel cs x _ h1 h2 => h.2 H enc w held fuel cs x h1 h2⟩
theorem Rd.atB.le {α : Type} {r : Rd α} {t : TypeId} {F F' : Nat} (h : r.atB P t F) (hf : F' ≤ F) : r.atB P t F' := ⟨h.1, fun H enc w held fuel cs x h0 h1 h2 => h.2 H enc w held fuel cs x (Nat.le_trans h0 hf) h1 h2⟩
theorem Rd.atB_map {α β : Type} {r : Rd α} {g : α → β} {t : TypeId} {F : Nat} (h : r.atB P t F) : (r.map g).atB P t F := ⟨h.1, fun H enc w held fuel cs x h0 hx hz => by obtain ⟨a, ha⟩ := h.2 H enc w held fuel cs x h0 hx hz; exact ⟨g a, a, ha, rfl⟩⟩
theorem Rd.atB_slice {α : Type} {r : Rd α} {t e : TypeId} {F : Nat} (ht : P.underlying t = some (.slice e)) (hc : P.cellsOf t = 1) (hr : r.atB P e F) (hn : 0 < r.n) : r.slice.atB P t F := by
  refine ⟨hc, fun H enc w held fuel cs x h0 h hz => ?_⟩
  rcases DataW.trod_slice ht h with ⟨rfl, _⟩ | ⟨a, len, cap, elems, rest, n, hfu, rfl, hxe, _, hl, hm, hlen, hel, _, _⟩
  · exact ⟨[], none, 0, rfl, by simp, by simp, fun _ => rfl, .inl rfl⟩
  · rw [hr.1] at hel
    have hsome : ∀ i, i < len → ∃ c cs', w.cells? 0 (a.add (i * r.n)) r.n = some cs' ∧ r.rel (· < w.heap.size) w cs' c := by
      intro i hi
      have key := hel i hi
      rw [List.getElem?_eq_getElem (by omega)] at key
      obtain ⟨cs', h1, h2⟩ := Option.bind_eq_some_iff.1 key
      obtain ⟨c, hcr⟩ := hr.2 H enc w held _ _ _ (by omega) h2 (fun q hq => hz q (by
        rw [hxe]
        simp only [DataW.weights, ht, List.mem_cons, List.mem_append]
        exact .inr (.inl (weights_mem (List.mem_map.2 ⟨elems[i], List.getElem_mem _, rfl⟩) q hq))))
      exact ⟨c, cs', h1, hcr⟩
    by_cases h0 : len = 0
    · subst h0
      exact ⟨[], some a, cap, rfl, by simp, hm, by simp, .inl rfl⟩
    · obtain ⟨b, off, spot⟩ := a
      have hspot : spot = none := by
        obtain ⟨c, cs', h1, h2⟩ := hsome 0 (by omega)
        have hl' := r.len _ _ _ _ h2
        obtain ⟨_, _, hcell⟩ := World.cells?_some h1
        have h3 := hcell 0 (by omega)
        rw [List.getElem?_eq_getElem (by omega)] at h3
        simp only [Nat.zero_mul] at h3
        have := World.cell?_spot h3
        simpa [Addr.add] using this
      subst hspot
      have hsm : ∀ i : Fin len, ∃ c cs', w.cells? 0 ((⟨b, off, none⟩ : Addr).add (i * r.n)) r.n = some cs' ∧ r.rel (· < w.heap.size) w cs' c := fun i => hsome i i.2
      obtain ⟨f, hf⟩ := Classical.axiomOfChoice hsm
      refine ⟨List.ofFn f, some ⟨b, off, none⟩, cap, by simp, by simpa using hl, hm, by simp, .inr ⟨b, off, rfl, ?_, ?_, ?_⟩⟩
      iterate 2
        obtain ⟨cs', h1, h2⟩ := hf ⟨0, by omega⟩
        have hl' := r.len _ _ _ _ h2
        rw [add_plain] at h1
        obtain ⟨_, h3⟩ := cells_at h1
        have h4 := h3 0 cs'[0] (by simp [hl', hn])
        rcases Nat.lt_or_ge b w.heap.size with h5 | h5
        · exact h5
        · simp [World.cell?, Array.getElem?_eq_none h5] at h4
      · intro k c hk
        obtain ⟨hk1, hk2⟩ := List.getElem?_eq_some_iff.1 hk
        simp at hk1 hk2
        obtain ⟨cs', h1, h2⟩ := hf ⟨k, hk1⟩
        rw [add_plain] at h1
        rw [← hk2]
        exact ⟨cs', h2, (cells_at h1).2⟩
/-- The fields of a struct from one on. -/
def Rd.atFB {α : Type} (r : Rd α) (P : Program) (off : Nat) (fs : List Field) (F : Nat) : Prop := ∀ (H : Type) (enc : TypeId × Value → H) (w : World) (held : Bool) (fuel : Nat) (cs : List Value), fuel ≤ F → off + r.n ≤ cs.length →
  (∀ (i : Nat) f, fs[i]? = some f → ∃ y : DataW H × List MemPlace, DataW.trod enc P w 0 (fun _ => true) held fuel f.type ((cs.drop f.offset).take (P.cellsOf f.type)) = some y ∧ ∀ n ∈ y.1.weights P f.type, n ≤ reachBytes) → ∃ a, r.rel (· < w.heap.size) w ((cs.drop off).take r.n) a
theorem Rd.atFB_one {α : Type} {r : Rd α} {off : Nat} {f : Field} {F : Nat} (hr : r.atB P f.type F) (ho : f.offset = off) : r.atFB P off [f] F := by
  intro H enc w held fuel cs hF hl h
  obtain ⟨y, hy, hz⟩ := h 0 f rfl
  rw [ho, hr.1] at hy
  exact hr.2 H enc w held _ _ _ hF hy hz
theorem Rd.atFB_cons {α β : Type} {r : Rd α} {s : Rd β} {off : Nat} {f : Field} {fs : List Field} {F : Nat} (hr : r.atB P f.type F) (ho : f.offset = off) (hs : s.atFB P (off + r.n) fs F) : (r.pair s).atFB P off (f :: fs) F := by
  intro H enc w held fuel cs hF hl h
  simp only [Rd.pair] at hl ⊢
  obtain ⟨y, hy, hz⟩ := h 0 f rfl
  rw [ho, hr.1] at hy
  obtain ⟨a, ha⟩ := hr.2 H enc w held _ _ _ hF hy hz
  obtain ⟨b, hb⟩ := hs H enc w held fuel cs hF (by omega) (fun i g hg => h (i + 1) g (by simpa using hg))
  refine ⟨(a, b), _, _, ?_, ha, hb⟩
  rw [List.take_add, List.drop_drop]
theorem Rd.atB_struct {α : Type} {r : Rd α} {t : TypeId} {fs : Array Field} {F : Nat} (ht : P.underlying t = some (.struct fs)) (hc : P.cellsOf t = r.n) (hr : r.atFB P 0 fs.toList F) : r.atB P t (F + 1) := by
  refine ⟨hc, fun H enc w held fuel cs x h0 h hz => ?_⟩
  obtain ⟨xs, n, hfu, hxe, hl, hlen, hf⟩ := DataW.trod_struct ht h
  obtain ⟨a, ha⟩ := hr H enc w held n cs (by omega) (by omega) (fun i f hi => by
    have hil : i < xs.length := by rw [hlen]; have := (List.getElem?_eq_some_iff.1 hi).1; simpa using this
    refine ⟨_, (hf i f (by simpa using hi)).trans (List.getElem?_eq_getElem hil), fun q hq => hz q ?_⟩
    rw [hxe]
    simp only [DataW.weights, ht]
    exact DataW.weights_mem_each (j := i) (t := f.type) (d := xs[i].1) (by simp at hi ⊢; exact ⟨f, hi, rfl⟩) (by simp [hil]) q hq)
  refine ⟨a, ?_⟩
  rw [List.drop_zero, List.take_of_length_le (by omega)] at ha
  exact ha
end
end Lift
namespace Go.Proofs.YtcfbmfcobpfcjaaDoor
open Go.RowKit Lift
set_option linter.unusedSimpArgs false
set_option linter.unusedVariables false
/-- A card: its properties; each may hold cards. -/
inductive Crd where
  | mk (props : List (ByteArray × ByteArray × List (ByteArray × ByteArray) × ByteArray × List Crd))
abbrev PropT (C : Type) := ByteArray × ByteArray × List (ByteArray × ByteArray) × ByteArray × List C
abbrev CProp := PropT Crd
def Crd.props : Crd → List CProp
  | .mk l => l
def rPropC {C : Type} (r : Rd C) : Rd (PropT C) := Rd.str.pair (Rd.str.pair (rPar.slice.pair (Rd.str.pair r.slice)))
def rNo : Rd Crd where
  n := 1
  rel _ _ _ _ := False
  len := fun _ _ _ _ h => h.elim
  mono := fun _ _ _ _ _ h _ => h
  kept := fun _ _ _ _ _ _ h _ _ => h
/-- Cards that lie so many within one another. -/
def rCrd : Nat → Rd Crd
  | 0 => rNo
  | d + 1 => (rPropC (rCrd d)).slice.map Crd.mk
theorem rCrd_n (d : Nat) : (rCrd d).n = 1 := by cases d <;> rfl
theorem rPropC_n (d : Nat) : (rPropC (rCrd d)).n = 5 := rfl
theorem crd_atB : ∀ F, (rCrd F).atB Tryd.prog 24 F
  | 0 => ⟨by rw [rCrd_n]; kernel_rfl, fun H enc w held fuel cs x h0 h hz => by
      obtain rfl : fuel = 0 := by omega
      simp [DataW.trod] at h⟩
  | F + 1 => by
    have ih := crd_atB F
    have hsl : (rCrd F).slice.atB Tryd.prog 40 F := Rd.atB_slice Tryd.underlying40 (by kernel_rfl) ih (by rw [rCrd_n]; omega)
    have hst : ∀ t, Tryd.prog.underlying t = some .string → Tryd.prog.cellsOf t = 1 → Rd.str.atB Tryd.prog t F := fun t h1 h2 => (Rd.at_str h1 h2).b F
    have hpr : (rPropC (rCrd F)).atB Tryd.prog 42 (F + 1) :=
      Rd.atB_struct Tryd.underlying42 (by kernel_rfl) (Rd.atFB_cons (hst _ Tryd.underlying9 (by kernel_rfl)) rfl (Rd.atFB_cons (hst _ Tryd.underlying9 (by kernel_rfl)) rfl
        (Rd.atFB_cons ((Rd.at_slice Tryd.underlying39 (by kernel_rfl) (Rd.at_struct Tryd.underlying58 (by kernel_rfl) (Rd.atF_cons (Rd.at_str Tryd.underlying9 (by kernel_rfl)) rfl (Rd.atF_one (Rd.at_str Tryd.underlying9 (by kernel_rfl)) rfl))) (by decide)).b F) rfl (Rd.atFB_cons (hst _ Tryd.underlying9 (by kernel_rfl)) rfl (Rd.atFB_one hsl rfl)))))
    have hps : (rPropC (rCrd F)).slice.atB Tryd.prog 22 F := Rd.atB_slice Tryd.underlying22 (by kernel_rfl) (hpr.le (by omega)) (by rw [rPropC_n]; omega)
    exact Rd.atB_map (Rd.atB_struct Tryd.underlying24 (by kernel_rfl) (Rd.atFB_one hps rfl))
/-- A card, however deep. -/
def rCard : Rd Crd where
  n := 1
  rel S w cs c := ∃ d, (rCrd d).rel S w cs c
  len := fun S w cs a ⟨d, h⟩ => by rw [← rCrd_n d]; exact (rCrd d).len S w cs a h
  mono := fun S S' w cs a ⟨d, h⟩ hm => ⟨d, (rCrd d).mono S S' w cs a h hm⟩
  kept := fun S X w w' cs a ⟨d, h⟩ hk hn => ⟨d, (rCrd d).kept S X w w' cs a h hk hn⟩
theorem rCard_at : rCard.at Tryd.prog 24 := ⟨by kernel_rfl, fun H enc w held fuel cs x h hz => by
  obtain ⟨a, ha⟩ := (crd_atB fuel).2 H enc w held fuel cs x (Nat.le_refl _) h hz
  exact ⟨a, fuel, ha⟩⟩
end Go.Proofs.YtcfbmfcobpfcjaaDoor
