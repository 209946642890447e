/- Readers: how Go's data lie in memory, as lists and pairs of Lean (no program in sight). -/
import Derived.Test.YtcfbmfcobpfcjaaDoorBase
import Derived.Deep.Slices
import Derived.Deep.Strs
namespace Lift
open Go Go.ChangeShapes Go.WideShapes Go.ChangeAt Go.RowKit Go.Deep
set_option linter.unusedSimpArgs false
set_option linter.unusedVariables false

/-- A reader: cells that hold a datum in a world; whatever they lead to lies in blocks of S. -/
structure Rd (α : Type) where
  n : Nat
  rel : (Nat → Prop) → World → List Value → α → Prop
  len : ∀ S w cs a, rel S w cs a → cs.length = n
  mono : ∀ S S' w cs a, rel S w cs a → (∀ b, S b → b < w.heap.size → S' b) → rel S' w cs a
  kept : ∀ S X w w' cs a, rel S w cs a → Kept X w w' → (∀ b, S b → b < w.heap.size → ¬ X b) → rel S w' cs a
theorem Rd.below {α : Type} (r : Rd α) {S : Nat → Prop} {w w' : World} {cs : List Value} {a : α} (h : r.rel S w cs a) (hb : Below w.heap.size w w') : r.rel S w' cs a :=
  r.kept S (fun _ => False) w w' cs a h (Kept.of_below hb _) (fun _ _ _ h => h)

/-- Cells that stand at a place. -/
def CellsAt (w : World) (b off : Nat) (cs : List Value) : Prop := ∀ i v, cs[i]? = some v → w.cell? ⟨b, off + i, none⟩ = some v
theorem CellsAt.below {w w' : World} {b off : Nat} {cs : List Value} {B : Nat} (h : CellsAt w b off cs) (hb : Below B w w') (hlt : b < B) : CellsAt w' b off cs :=
  fun i v hi => (hb.cell (p := ⟨b, off + i, none⟩) hlt).trans (h i v hi)
theorem CellsAt.kept {X : Nat → Prop} {w w' : World} {b off : Nat} {cs : List Value} (h : CellsAt w b off cs) (hb : Kept X w w') (hlt : b < w.heap.size) (hn : ¬ X b) : CellsAt w' b off cs :=
  fun i v hi => (hb.cell (p := ⟨b, off + i, none⟩) hlt hn).trans (h i v hi)

def Rd.int (k : IntKind) : Rd Int where
  n := 1
  rel _ _ cs a := cs = [.int k a] ∧ (Lit.int k a).wf = true
  len := by rintro _ w cs a ⟨rfl, _⟩; rfl
  mono := fun _ _ _ _ _ h _ => h
  kept := fun _ _ _ _ _ _ h _ _ => h
def Rd.bool : Rd Bool where
  n := 1
  rel _ _ cs a := cs = [.bool a]
  len := by rintro _ w cs a rfl; rfl
  mono := fun _ _ _ _ _ h _ => h
  kept := fun _ _ _ _ _ _ h _ _ => h
/-- As many bytes as a text has that came in. -/
def maxTx : Nat := 140737488351232
def Rd.str : Rd ByteArray where
  n := 1
  rel _ _ cs a := cs = [.string a] ∧ a.size ≤ maxTx
  len := by rintro _ w cs a ⟨rfl, _⟩; rfl
  mono := fun _ _ _ _ _ h _ => h
  kept := fun _ _ _ _ _ _ h _ _ => h
def Rd.pair {α β : Type} (r : Rd α) (s : Rd β) : Rd (α × β) where
  n := r.n + s.n
  rel S w cs a := ∃ c1 c2, cs = c1 ++ c2 ∧ r.rel S w c1 a.1 ∧ s.rel S w c2 a.2
  len := by rintro S w cs a ⟨c1, c2, rfl, h1, h2⟩; rw [List.length_append, r.len _ _ _ _ h1, s.len _ _ _ _ h2]
  mono := by rintro S S' w cs a ⟨c1, c2, rfl, h1, h2⟩ hm; exact ⟨c1, c2, rfl, r.mono _ _ _ _ _ h1 hm, s.mono _ _ _ _ _ h2 hm⟩
  kept := by rintro S X w w' cs a ⟨c1, c2, rfl, h1, h2⟩ hk hn; exact ⟨c1, c2, rfl, r.kept _ _ _ _ _ _ h1 hk hn, s.kept _ _ _ _ _ _ h2 hk hn⟩
/-- What a slice's header leads to. -/
def SlAt {α : Type} (r : Rd α) (S : Nat → Prop) (w : World) (ao : Option Addr) (l : List α) : Prop :=
  l = [] ∨ ∃ b off, ao = some ⟨b, off, none⟩ ∧ S b ∧ b < w.heap.size ∧ ∀ k c, l[k]? = some c → ∃ cs, r.rel S w cs c ∧ CellsAt w b (off + k * r.n) cs
theorem SlAt.mono {α : Type} {r : Rd α} {S S' : Nat → Prop} {w : World} {ao : Option Addr} {l : List α} (h : SlAt r S w ao l) (hm : ∀ b, S b → b < w.heap.size → S' b) : SlAt r S' w ao l := by
  rcases h with rfl | ⟨b, off, rfl, hs, hlt, h⟩
  · exact .inl rfl
  · refine .inr ⟨b, off, rfl, hm b hs hlt, hlt, fun k c hk => ?_⟩
    obtain ⟨cs, h1, h2⟩ := h k c hk
    exact ⟨cs, r.mono _ _ _ _ _ h1 hm, h2⟩
theorem SlAt.kept {α : Type} {r : Rd α} {S X : Nat → Prop} {w w' : World} {ao : Option Addr} {l : List α} (h : SlAt r S w ao l) (hk : Kept X w w') (hn : ∀ b, S b → b < w.heap.size → ¬ X b) : SlAt r S w' ao l := by
  rcases h with rfl | ⟨b, off, rfl, hs, hlt, h⟩
  · exact .inl rfl
  · refine .inr ⟨b, off, rfl, hs, Nat.lt_of_lt_of_le hlt hk.size, fun k c hc => ?_⟩
    obtain ⟨cs, h1, h2⟩ := h k c hc
    exact ⟨cs, r.kept _ _ _ _ _ _ h1 hk hn, h2.kept hk hlt (hn b hs hlt)⟩
theorem SlAt.below {α : Type} {r : Rd α} {S : Nat → Prop} {w w' : World} {ao : Option Addr} {l : List α} (h : SlAt r S w ao l) (hb : Below w.heap.size w w') : SlAt r S w' ao l :=
  h.kept (Kept.of_below hb (fun _ => False)) (fun _ _ _ h => h)
/-- What lies below a block lies there behind whatever leaves that alone. -/
theorem SlAt.old {α : Type} {r : Rd α} {B : Nat} {w w' : World} {ao : Option Addr} {l : List α} (h : SlAt r (· < B) w ao l) (hb : Below B w w') : SlAt r (· < B) w' ao l :=
  h.kept (X := (B ≤ ·)) ⟨hb.os, hb.tape, hb.output, hb.size, fun k _ hk => hb.block k (by omega)⟩ (fun b h1 _ h2 => by omega)
def Rd.slice {α : Type} (r : Rd α) : Rd (List α) where
  n := 1
  rel S w cs l := ∃ ao cap, cs = [.slice ao l.length cap] ∧ l.length ≤ cap ∧ cap ≤ maxLen ∧ (ao = none → cap = 0) ∧ SlAt r S w ao l
  len := by rintro _ w cs a ⟨_, _, rfl, _⟩; rfl
  mono := by rintro S S' w cs a ⟨ao, cap, rfl, h1, h2, h3, h4⟩ hm; exact ⟨ao, cap, rfl, h1, h2, h3, h4.mono hm⟩
  kept := by rintro S X w w' cs a ⟨ao, cap, rfl, h1, h2, h3, h4⟩ hk hn; exact ⟨ao, cap, rfl, h1, h2, h3, h4.kept hk hn⟩
def Rd.map {α β : Type} (r : Rd α) (g : α → β) : Rd β where
  n := r.n
  rel S w cs b := ∃ a, r.rel S w cs a ∧ b = g a
  len := by rintro S w cs b ⟨a, h, _⟩; exact r.len _ _ _ _ h
  mono := by rintro S S' w cs b ⟨a, h, rfl⟩ hm; exact ⟨a, r.mono _ _ _ _ _ h hm, rfl⟩
  kept := by rintro S X w w' cs b ⟨a, h, rfl⟩ hk hn; exact ⟨a, r.kept _ _ _ _ _ _ h hk hn, rfl⟩

/-- An element of a slice. -/
theorem SlAt.get {α : Type} {r : Rd α} {S : Nat → Prop} {w : World} {ao : Option Addr} {l : List α} (h : SlAt r S w ao l) {k : Nat} {c : α} (hk : l[k]? = some c) :
    ∃ b off cs, ao = some ⟨b, off, none⟩ ∧ S b ∧ b < w.heap.size ∧ r.rel S w cs c ∧ CellsAt w b (off + k * r.n) cs := by
  rcases h with rfl | ⟨b, off, rfl, hs, hlt, h⟩
  · simp at hk
  · obtain ⟨cs, h1, h2⟩ := h k c hk
    exact ⟨b, off, cs, rfl, hs, hlt, h1, h2⟩

/-! ### From what a call is handed -/
section
variable {H : Type} {enc : TypeId × Value → H} {P : Program} {w : World} {held : Bool}
/-- The reader reads what is of type t. -/
def Rd.at {α : Type} (r : Rd α) (P : Program) (t : TypeId) : Prop := P.cellsOf t = r.n ∧ ∀ (H : Type) (enc : TypeId × Value → H) (w : World) (held : Bool) (fuel : Nat) (cs : List Value) (x : DataW H × List MemPlace), DataW.trod enc P w 0 (fun _ => true) held fuel t cs = some x → (∀ n ∈ x.1.weights P t, n ≤ reachBytes) → ∃ a, r.rel (· < w.heap.size) w cs a
theorem Rd.at_int {t : TypeId} {k : IntKind} (ht : P.underlying t = some (.int k)) (hc : P.cellsOf t = 1) : (Rd.int k).at P t := ⟨hc, fun _ _ _ _ _ _ _ h _ => by obtain ⟨n, rfl, _, hw⟩ := DataW.trod_int ht h; exact ⟨n, rfl, hw⟩⟩
theorem Rd.at_bool {t : TypeId} (ht : P.underlying t = some .bool) (hc : P.cellsOf t = 1) : Rd.bool.at P t := ⟨hc, fun _ _ _ _ _ _ _ h _ => by obtain ⟨b, rfl, _⟩ := DataW.trod_bool ht h; exact ⟨b, rfl⟩⟩
theorem Rd.at_str {t : TypeId} (ht : P.underlying t = some .string) (hc : P.cellsOf t = 1) : Rd.str.at P t := ⟨hc, fun _ _ _ _ _ _ x h hz => by
  obtain ⟨s, rfl, e, hs⟩ := DataW.trod_string ht h
  rw [e] at hz
  have := hz s.data.toList.length (by simp [DataW.weights])
  exact ⟨s, rfl, by simpa [maxTx, reachBytes] using this⟩⟩
theorem Rd.at_map {α β : Type} {r : Rd α} {g : α → β} {t : TypeId} (h : r.at P t) : (r.map g).at P t := ⟨h.1, fun H enc w held fuel cs x hx hz => by obtain ⟨a, ha⟩ := h.2 H enc w held fuel cs x hx hz; exact ⟨g a, a, ha, rfl⟩⟩

theorem cells_at {w : World} {base b off n : Nat} {cs : List Value} (h : w.cells? base ⟨b, off, none⟩ n = some cs) : cs.length = n ∧ CellsAt w b off cs := by
  obtain ⟨_, hl, hc⟩ := World.cells?_some h
  refine ⟨hl, fun i v hi => ?_⟩
  have := hc i (by rw [← hl]; exact (List.getElem?_eq_some_iff.1 hi).1)
  rw [add_plain] at this
  rw [this, hi]
theorem weights_mem {e : TypeId} : ∀ {l : List (DataW H)} {d : DataW H}, d ∈ l → ∀ n ∈ d.weights P e, n ∈ DataW.weightsAll P e l
  | d0 :: l, d, hd, n, hn => by
    simp only [DataW.weightsAll, List.mem_append]
    rcases List.mem_cons.1 hd with rfl | hd
    · exact .inl hn
    · exact .inr (weights_mem hd n hn)
theorem Rd.at_slice {α : Type} {r : Rd α} {t e : TypeId} (ht : P.underlying t = some (.slice e)) (hc : P.cellsOf t = 1) (hr : r.at P e) (hn : 0 < r.n) : r.slice.at P t := by
  refine ⟨hc, fun H enc w held fuel cs x h hz => ?_⟩
  rcases open_slice ht h with ⟨rfl, _⟩ | ⟨a, len, cap, m, n, D, Pl, rfl, _, hl, hm, hmm, hxe, hx⟩
  · exact ⟨[], none, 0, rfl, by simp, by simp, fun _ => rfl, .inl rfl⟩
  · have hm2 : m = cap := by simpa using hmm
    subst hm2
    rw [hr.1] at hx
    have hsome : ∀ i, i < len → ∃ c cs', w.cells? 0 (a.add (i * r.n)) r.n = some cs' ∧ r.rel (· < w.heap.size) w cs' c := by
      intro i hi
      obtain ⟨cs', h1, h2⟩ := hx i (by omega)
      obtain ⟨c, hcr⟩ := hr.2 H enc w held _ _ _ h2 (fun q hq => hz q (by
        rw [hxe]
        simp only [DataW.weights, ht, List.mem_cons, List.mem_append]
        exact .inr (.inl (weights_mem (List.mem_map.2 ⟨i, by simpa using hi, rfl⟩) q hq))))
      exact ⟨c, cs', h1, hcr⟩
    by_cases h0 : len = 0
    · subst h0
      exact ⟨[], some a, m, rfl, by simp, hm, by simp, .inl rfl⟩
    · obtain ⟨b, off, spot⟩ := a
      have hspot : spot = none := by
        obtain ⟨c, cs', h1, h2⟩ := hsome 0 (by omega)
        have hl' := r.len _ _ _ _ h2
        obtain ⟨_, _, hcell⟩ := World.cells?_some h1
        have h3 := hcell 0 (by omega)
        rw [List.getElem?_eq_getElem (by omega)] at h3
        simp only [Nat.zero_mul] at h3
        have := World.cell?_spot h3
        simpa [Addr.add] using this
      subst hspot
      have hsm : ∀ i : Fin len, ∃ c cs', w.cells? 0 ((⟨b, off, none⟩ : Addr).add (i * r.n)) r.n = some cs' ∧ r.rel (· < w.heap.size) w cs' c := fun i => hsome i i.2
      obtain ⟨f, hf⟩ := Classical.axiomOfChoice hsm
      refine ⟨List.ofFn f, some ⟨b, off, none⟩, m, by simp, by simpa using hl, hm, by simp, .inr ⟨b, off, rfl, ?_, ?_, ?_⟩⟩
      iterate 2
        obtain ⟨cs', h1, h2⟩ := hf ⟨0, by omega⟩
        have hl' := r.len _ _ _ _ h2
        rw [add_plain] at h1
        obtain ⟨_, h3⟩ := cells_at h1
        have h4 := h3 0 cs'[0] (by simp [hl', hn])
        rcases Nat.lt_or_ge b w.heap.size with h5 | h5
        · exact h5
        · simp [World.cell?, Array.getElem?_eq_none h5] at h4
      · intro k c hk
        obtain ⟨hk1, hk2⟩ := List.getElem?_eq_some_iff.1 hk
        simp at hk1 hk2
        obtain ⟨cs', h1, h2⟩ := hf ⟨k, hk1⟩
        rw [add_plain] at h1
        rw [← hk2]
        exact ⟨cs', h2, (cells_at h1).2⟩

/-- The fields of a struct from one on. -/
def Rd.atF {α : Type} (r : Rd α) (P : Program) (off : Nat) (fs : List Field) : Prop := ∀ (H : Type) (enc : TypeId × Value → H) (w : World) (held : Bool) (fuel : Nat) (cs : List Value), off + r.n ≤ cs.length →
  (∀ (i : Nat) f, fs[i]? = some f → ∃ y : DataW H × List MemPlace, DataW.trod enc P w 0 (fun _ => true) held fuel f.type ((cs.drop f.offset).take (P.cellsOf f.type)) = some y ∧ ∀ n ∈ y.1.weights P f.type, n ≤ reachBytes) → ∃ a, r.rel (· < w.heap.size) w ((cs.drop off).take r.n) a
theorem Rd.atF_one {α : Type} {r : Rd α} {off : Nat} {f : Field} (hr : r.at P f.type) (ho : f.offset = off) : r.atF P off [f] := by
  intro H enc w held fuel cs hl h
  obtain ⟨y, hy, hz⟩ := h 0 f rfl
  rw [ho, hr.1] at hy
  exact hr.2 H enc w held _ _ _ hy hz
theorem Rd.atF_cons {α β : Type} {r : Rd α} {s : Rd β} {off : Nat} {f : Field} {fs : List Field} (hr : r.at P f.type) (ho : f.offset = off) (hs : s.atF P (off + r.n) fs) : (r.pair s).atF P off (f :: fs) := by
  intro H enc w held fuel cs hl h
  simp only [Rd.pair] at hl ⊢
  obtain ⟨y, hy, hz⟩ := h 0 f rfl
  rw [ho, hr.1] at hy
  obtain ⟨a, ha⟩ := hr.2 H enc w held _ _ _ hy hz
  obtain ⟨b, hb⟩ := hs H enc w held fuel cs (by omega) (fun i g hg => h (i + 1) g (by simpa using hg))
  refine ⟨(a, b), _, _, ?_, ha, hb⟩
  rw [List.take_add, List.drop_drop]
theorem Rd.at_struct {α : Type} {r : Rd α} {t : TypeId} {fs : Array Field} (ht : P.underlying t = some (.struct fs)) (hc : P.cellsOf t = r.n) (hr : r.atF P 0 fs.toList) : r.at P t := by
  refine ⟨hc, fun H enc w held fuel cs x h hz => ?_⟩
  obtain ⟨xs, n, _, hxe, hl, hlen, hf⟩ := DataW.trod_struct ht h
  obtain ⟨a, ha⟩ := hr H enc w held n cs (by omega) (fun i f hi => by
    have hil : i < xs.length := by rw [hlen]; have := (List.getElem?_eq_some_iff.1 hi).1; simpa using this
    refine ⟨_, (hf i f (by simpa using hi)).trans (List.getElem?_eq_getElem hil), fun q hq => hz q ?_⟩
    rw [hxe]
    simp only [DataW.weights, ht]
    exact DataW.weights_mem_each (j := i) (t := f.type) (d := xs[i].1) (by simp at hi ⊢; exact ⟨f, hi, rfl⟩) (by simp [hil]) q hq)
  refine ⟨a, ?_⟩
  rw [List.drop_zero, List.take_of_length_le (by omega)] at ha
  exact ha

/-- A slice that came in. -/
structure SlArg {α : Type} (r : Rd α) (w : World) (ao : Option Addr) (cap : Nat) (l : List α) : Prop where
  le : l.length ≤ cap
  max : cap ≤ maxLen
  nil : ao = none → cap = 0
  at' : SlAt r (· < w.heap.size) w ao l
/-- A parameter of a slice's type. -/
theorem Rd.arg_slice {α : Type} {r : Rd α} {b0 : Nat} {t e : TypeId} {v : Value} {d : DataW H} {ps : List MemPlace} (hr : r.slice.at P t) (ht : P.underlying t = some (.slice e)) (hval : Value.okWide P w .any b0 t v) (hd : DataW.Trod enc P w 0 (fun _ => true) held t v d ps) (hz : ∀ n ∈ d.weights P t, n ≤ reachBytes) :
    ∃ l ao cap, v = .slice ao l.length cap ∧ SlArg r w ao cap l := by
  obtain ⟨ao, len, cap, rfl⟩ := okWide_slice ht hval
  obtain ⟨fuel, hf⟩ := hd
  obtain ⟨l, ao', cap', h1, h2⟩ := hr.2 H enc w held _ _ _ hf hz
  simp [Value.cells] at h1
  obtain ⟨rfl, rfl, rfl⟩ := h1
  exact ⟨l, _, _, rfl, h2.1, h2.2.1, h2.2.2.1, h2.2.2.2⟩
/-- A parameter of a struct's type. -/
theorem Rd.arg_struct {α : Type} {r : Rd α} {b0 : Nat} {t : TypeId} {fs : Array Field} {v : Value} {d : DataW H} {ps : List MemPlace} (hr : r.at P t) (ht : P.underlying t = some (.struct fs)) (hval : Value.okWide P w .any b0 t v) (hd : DataW.Trod enc P w 0 (fun _ => true) held t v d ps) (hz : ∀ n ∈ d.weights P t, n ≤ reachBytes) :
    ∃ a cs, v = .agg cs ∧ r.rel (· < w.heap.size) w cs.toList a := by
  unfold Value.okWide at hval
  rw [ht] at hval
  obtain ⟨cs, rfl, _⟩ := hval
  obtain ⟨fuel, hf⟩ := hd
  obtain ⟨a, ha⟩ := hr.2 H enc w held _ _ _ hf hz
  exact ⟨a, cs, rfl, ha⟩
end

/-! ### From what the call itself has made -/
/-- Rows written out: each element's cells. -/
def RowsOf {α : Type} (r : Rd α) (S : Nat → Prop) (w : World) (xs : List Value) (l : List α) : Prop := ∃ css : List (List Value), xs = css.flatten ∧ css.length = l.length ∧ ∀ (k : Nat) (c : α), l[k]? = some c → ∃ cs, css[k]? = some cs ∧ r.rel S w cs c
theorem RowsOf.nil {α : Type} (r : Rd α) (S : Nat → Prop) (w : World) : RowsOf r S w [] [] := ⟨[], rfl, rfl, by simp⟩
theorem RowsOf.snoc {α : Type} {r : Rd α} {S : Nat → Prop} {w : World} {xs cs : List Value} {l : List α} {c : α} (h : RowsOf r S w xs l) (hc : r.rel S w cs c) : RowsOf r S w (xs ++ cs) (l ++ [c]) := by
  obtain ⟨css, rfl, hl, h⟩ := h
  refine ⟨css ++ [cs], by simp, by simp [hl], fun k x hk => ?_⟩
  by_cases hk2 : k < l.length
  · rw [List.getElem?_append_left hk2] at hk
    obtain ⟨y, h1, h2⟩ := h k x hk
    exact ⟨y, by rw [List.getElem?_append_left (by omega)]; exact h1, h2⟩
  · have hk3 : k = l.length := by have := (List.getElem?_eq_some_iff.1 hk).1; simp at this; omega
    subst hk3
    simp at hk
    subst hk
    exact ⟨cs, by simp [← hl], hc⟩
theorem RowsOf.app {α : Type} {r : Rd α} {S : Nat → Prop} {w : World} {xs ys : List Value} {l m : List α} (h : RowsOf r S w xs l) (k : RowsOf r S w ys m) : RowsOf r S w (xs ++ ys) (l ++ m) := by
  obtain ⟨css, rfl, hl, h⟩ := h
  obtain ⟨dss, rfl, hm, k⟩ := k
  refine ⟨css ++ dss, by simp, by simp [hl, hm], fun i x hi => ?_⟩
  by_cases hk2 : i < l.length
  · rw [List.getElem?_append_left hk2] at hi
    obtain ⟨y, h1, h2⟩ := h i x hi
    exact ⟨y, by rw [List.getElem?_append_left (by omega)]; exact h1, h2⟩
  · rw [List.getElem?_append_right (by omega)] at hi
    obtain ⟨y, h1, h2⟩ := k _ x hi
    exact ⟨y, by rw [List.getElem?_append_right (by omega), hl]; exact h1, h2⟩
theorem RowsOf.below {α : Type} {r : Rd α} {S : Nat → Prop} {w w' : World} {xs : List Value} {l : List α} (h : RowsOf r S w xs l) (hb : Below w.heap.size w w') : RowsOf r S w' xs l := by
  obtain ⟨css, rfl, hl, h⟩ := h
  refine ⟨css, rfl, hl, fun k c hk => ?_⟩
  obtain ⟨cs, h1, h2⟩ := h k c hk
  exact ⟨cs, h1, r.below h2 hb⟩
theorem flatten_at {n : Nat} : ∀ (css : List (List Value)) (k : Nat) (cs : List Value), (∀ c ∈ css, c.length = n) → css[k]? = some cs → ∀ (i : Nat) v, cs[i]? = some v → css.flatten[k * n + i]? = some v
  | [], k, cs, _, h => by simp at h
  | c :: css, 0, cs, hn, h => by
    intro i v hi
    simp at h; subst h
    rw [List.flatten_cons, List.getElem?_append_left (by have := (List.getElem?_eq_some_iff.1 hi).1; omega)]
    simpa using hi
  | c :: css, k + 1, cs, hn, h => by
    intro i v hi
    have h1 := hn c (by simp)
    rw [List.flatten_cons, List.getElem?_append_right (by rw [h1, Nat.succ_mul]; omega), h1, show (k + 1) * n + i - n = k * n + i by rw [Nat.succ_mul]; omega]
    exact flatten_at css k cs (fun c hc => hn c (by simp [hc])) (by simpa using h) i v hi
theorem SlAt.of_cells {α : Type} {r : Rd α} {S : Nat → Prop} {w : World} {b off : Nat} {xs : List Value} {l : List α} (hS : S b) (hlt : b < w.heap.size) (hx : CellsAt w b off xs) (h : RowsOf r S w xs l) : SlAt r S w (some ⟨b, off, none⟩) l := by
  obtain ⟨css, rfl, hl, h⟩ := h
  refine .inr ⟨b, off, rfl, hS, hlt, fun k c hk => ?_⟩
  obtain ⟨cs, h1, h2⟩ := h k c hk
  refine ⟨cs, h2, fun i v hi => ?_⟩
  rw [Nat.add_assoc]
  refine hx _ v (flatten_at css k cs (fun c hc => ?_) h1 i v hi)
  obtain ⟨j, hj, rfl⟩ := List.getElem_of_mem hc
  obtain ⟨cs', h3, h4⟩ := h j l[j] (by simp)
  rw [List.getElem?_eq_getElem hj] at h3
  rw [Option.some.inj h3]
  exact r.len _ _ _ _ h4
/-- A row of the call's own, read. -/
theorem SlAt.of_own {α : Type} {r : Rd α} {S : Nat → Prop} {w : World} {base size cap n : Nat} {e : TypeId} {ao : Option Addr} {xs : List Value} {l : List α} (h : w.ownsRow base e size (.slice ao n cap) n xs) (hn : n = l.length) (hr : RowsOf r S w xs l) (hS : ∀ g, ao = some ⟨g, 0, none⟩ → S g) : SlAt r S w ao l := by
  rcases h.2 with ⟨h1, h2⟩ | ⟨g, cap', cur, h1, hbg, hg, _⟩
  · left
    rw [h2] at hn
    exact List.eq_nil_of_length_eq_zero hn.symm
  · injection h1 with h1 h2 h3
    subst h1
    exact SlAt.of_cells (hS g rfl) (Array.getElem?_eq_some_iff.1 hg).1 (fun i v hi => by have := h.cells (g := g) (by rfl) i v hi; simpa [Addr.add_lit] using this) hr

/-- What is appended from a slice that is read. -/
theorem SlAt.news {α : Type} {r : Rd α} {S : Nat → Prop} {w : World} {ao : Option Addr} {l : List α} (h : SlAt r S w ao l) :
    ∃ xs, xs.length = l.length * r.n ∧ RowsOf r S w xs l ∧ ∀ a, ao = some a → ∀ j u, xs[j]? = some u → w.cell? (a.add j) = some u := by
  rcases h with rfl | ⟨b, off, rfl, hs, hlt, h⟩
  · exact ⟨[], by simp, RowsOf.nil _ _ _, fun _ _ j u hj => by simp at hj⟩
  · have hall : ∀ m, m ≤ l.length → ∃ xs, xs.length = m * r.n ∧ RowsOf r S w xs (l.take m) ∧ CellsAt w b off xs := by
      intro m
      induction m with
      | zero => intro _; exact ⟨[], by simp, by simpa using RowsOf.nil r S w, fun i v hi => by simp at hi⟩
      | succ m ih =>
        intro hm
        obtain ⟨xs, h1, h2, h3⟩ := ih (by omega)
        obtain ⟨cs, h4, h5⟩ := h m l[m] (by simp)
        have hl := r.len _ _ _ _ h4
        refine ⟨xs ++ cs, by rw [List.length_append, h1, hl, Nat.succ_mul], by rw [List.take_succ_eq_append_getElem (by omega)]; exact h2.snoc h4, fun i v hi => ?_⟩
        by_cases hi2 : i < xs.length
        · exact h3 i v (by rwa [List.getElem?_append_left hi2] at hi)
        · rw [List.getElem?_append_right (by omega)] at hi
          have := h5 _ v hi
          rw [h1] at this hi2
          rwa [show off + m * r.n + (i - m * r.n) = off + i by omega] at this
    obtain ⟨xs, h1, h2, h3⟩ := hall l.length (Nat.le_refl _)
    rw [List.take_length] at h2
    refine ⟨xs, h1, h2, fun a ha j u hj => ?_⟩
    cases ha
    rw [Addr.add_lit]
    exact h3 j u hj

theorem RowsOf.mono {α : Type} {r : Rd α} {S S' : Nat → Prop} {w : World} {xs : List Value} {l : List α} (h : RowsOf r S w xs l) (hm : ∀ b, S b → b < w.heap.size → S' b) : RowsOf r S' w xs l := by
  obtain ⟨css, rfl, hl, h⟩ := h
  refine ⟨css, rfl, hl, fun k c hk => ?_⟩
  obtain ⟨cs, h1, h2⟩ := h k c hk
  exact ⟨cs, h1, r.mono _ _ _ _ _ h2 hm⟩
theorem RowsOf.kept {α : Type} {r : Rd α} {S X : Nat → Prop} {w w' : World} {xs : List Value} {l : List α} (h : RowsOf r S w xs l) (hk : Kept X w w') (hn : ∀ b, S b → b < w.heap.size → ¬ X b) : RowsOf r S w' xs l := by
  obtain ⟨css, rfl, hl, h⟩ := h
  refine ⟨css, rfl, hl, fun k c hc => ?_⟩
  obtain ⟨cs, h1, h2⟩ := h k c hc
  exact ⟨cs, h1, r.kept _ _ _ _ _ _ h2 hk hn⟩

/-- A row that the call builds: its elements, what they lead to in S and elsewhere than in the row itself. -/
def Own {α : Type} (r : Rd α) (S : Nat → Prop) (w : World) (base : Nat) (e : TypeId) (v : Value) (l : List α) : Prop :=
  ∃ xs, w.ownsRow base e r.n v l.length xs ∧ RowsOf r (fun b => S b ∧ some b ≠ v.ownBlock) w xs l
theorem Own.nil {α : Type} (r : Rd α) (S : Nat → Prop) (w : World) (base : Nat) (e : TypeId) : Own r S w base e (.slice none 0 0) [] := ⟨[], World.ownsRow_nil _ _ _ _, RowsOf.nil _ _ _⟩
theorem Own.form {α : Type} {r : Rd α} {S : Nat → Prop} {w : World} {base : Nat} {e : TypeId} {v : Value} {l : List α} (h : Own r S w base e v l) : ∃ ao cap, v = .slice ao l.length cap := by
  obtain ⟨xs, h, _⟩ := h; exact own_form h
theorem Own.lt {α : Type} {r : Rd α} {S : Nat → Prop} {w : World} {base : Nat} {e : TypeId} {v : Value} {l : List α} (h : Own r S w base e v l) : ∀ k, v.ownBlock = some k → base ≤ k ∧ k < w.heap.size := by
  obtain ⟨xs, h, _⟩ := h; exact h.lt
theorem Own.kept {α : Type} {r : Rd α} {S X : Nat → Prop} {w w' : World} {base : Nat} {e : TypeId} {v : Value} {l : List α} (h : Own r S w base e v l) (hk : Kept X w w') (hv : ∀ k, v.ownBlock = some k → ¬ X k) (hn : ∀ b, S b → b < w.heap.size → ¬ X b) : Own r S w' base e v l := by
  obtain ⟨xs, h1, h2⟩ := h
  exact ⟨xs, hk.own h1 hv, h2.kept hk (fun b hb => hn b hb.1)⟩
theorem Own.below {α : Type} {r : Rd α} {S : Nat → Prop} {w w' : World} {base : Nat} {e : TypeId} {v : Value} {l : List α} (h : Own r S w base e v l) (hb : Below w.heap.size w w') : Own r S w' base e v l :=
  h.kept (Kept.of_below hb (fun _ => False)) (fun _ _ h => h) (fun _ _ _ h => h)
theorem Own.alloc {α : Type} {r : Rd α} {S : Nat → Prop} {w : World} {base : Nat} {e : TypeId} {v : Value} {l : List α} (h : Own r S w base e v l) (o : Obj) : Own r S (w.alloc o) base e v l :=
  h.below ((Below.refl _ w).alloc (Nat.le_refl _) o)
/-- What append's law leaves, as a row of elements. -/
theorem Own.append {α : Type} {r : Rd α} {S : Nat → Prop} {w w2 : World} {base : Nat} {e : TypeId} {v v' : Value} {l m : List α} {xs cs : List Value} {n : Nat}
    (hr : RowsOf r (fun b => S b ∧ some b ≠ v.ownBlock) w xs l) (hc : RowsOf r (fun b => S b ∧ some b ≠ v.ownBlock) w cs m) (hown : w2.ownsRow base e r.n v' n (xs ++ cs)) (hn : n = (l ++ m).length) (hg : w.grownBy w2 v.ownBlock)
    (hw : v'.ownBlock = v.ownBlock ∨ ∃ g, v'.ownBlock = some g ∧ w.heap.size ≤ g) : Own r S w2 base e v' (l ++ m) := by
  subst hn
  refine ⟨xs ++ cs, hown, RowsOf.mono (RowsOf.kept ((hr.app hc).mono (S' := fun b => (S b ∧ some b ≠ v.ownBlock) ∧ b < w.heap.size) fun b h1 h2 => ⟨h1, h2⟩) (Kept.of_grown hg) (fun b h1 _ h2 => h1.1.2 h2)) ?_⟩
  rintro b ⟨⟨h1, h2⟩, h3⟩ _
  refine ⟨h1, ?_⟩
  rcases hw with e1 | ⟨g, e1, hgg⟩
  · rw [e1]; exact h2
  · rw [e1]; intro e2; cases e2; omega
/-- .. as a slice that is read. -/
theorem Own.sl {α : Type} {r : Rd α} {S : Nat → Prop} {w : World} {base : Nat} {e : TypeId} {ao : Option Addr} {n cap : Nat} {l : List α} (h : Own r S w base e (.slice ao n cap) l) : n = l.length ∧ SlAt r (fun b => S b ∨ base ≤ b) w ao l := by
  obtain ⟨xs, h1, h2⟩ := h
  obtain ⟨_, _, h3⟩ := own_form h1
  injection h3 with h3 h4 h5
  subst h4
  refine ⟨rfl, SlAt.of_own h1 rfl (h2.mono fun b hb _ => .inl hb.1) ?_⟩
  rintro g rfl
  exact .inr (h1.lt g rfl).1

theorem Kept.push {w0 w' : World} {row : Option Nat} {o : Obj} (hg : (w0.alloc o).grownBy w' row) : Kept (fun k => some k = row) w0 w' :=
  (Kept.alloc (fun _ => False) w0 o).trans (Kept.of_grown hg) (fun _ _ h => h.elim) (fun _ _ h => h)
theorem Own.kbelow {α : Type} {r : Rd α} {S : Nat → Prop} {w w' : World} {base B : Nat} {e : TypeId} {v : Value} {l : List α} (h : Own r S w base e v l) (hB : B ≤ base) (hw : B ≤ w.heap.size) (hk : Kept (fun k => some k = v.ownBlock) w w') : Below B w w' :=
  hk.below hw (fun k hk => by have := (h.lt k hk.symm).1; omega)

/-- 'append(l, c)', one element: the call's own row grows by it. -/
theorem wpList_push {α : Type} (r : Rd α) {P : Program} {w0 : World} {ops : Array Oper} {rest : List Oper} {o : Oper} {a : Act} {Q : Exit → Act → World → Prop} (hgd : o.guard = none) (s x : Operand) (t : TypeId)
    (ho : o.op = .call { callee := .builtin .append, args := #[s, x], argTypes := #[t, t] })
    (base : Nat) (e : TypeId) (i : TypeInfo) (z : Value) (bytes : Nat) (ht : P.underlying t = some (.slice e)) (hi : P.info? e = some i) (hz : i.zero = some z)
    (hsize : i.size = r.n) (hby : i.bytes = bytes) (hzs : z.cells.size = r.n) (hsz : 0 < r.n)
    (S : Nat → Prop) (v : Value) (l : List α) (hs : a.eval s = v) (hO : Own r S w0 base e v l) (cs : List Value) (c : α) (g : Nat) (hx : a.eval x = .slice (some ⟨g, 0, none⟩) 1 1) (hgz : g = w0.heap.size)
    (hc : r.rel (fun b => S b ∧ some b ≠ v.ownBlock) w0 cs c) (h1 : ∀ u ∈ cs, u.oneCell' = true)
    (h63 : l.length + 1 ≤ maxLen) (hbytes : (l.length + 1) * bytes ≤ 140737488355328) (hbase : base ≤ w0.heap.size)
    (h : ∀ v' w', Own r S w' base e v' (l ++ [c]) → Kept (fun k => some k = v.ownBlock) w0 w' → (v'.ownBlock = v.ownBlock ∨ ∃ g, v'.ownBlock = some g ∧ w0.heap.size < g) → wpList P ops Q rest (a.put o.dst v') w') :
    wpList P ops Q (o :: rest) a (w0.alloc (.cells cs.toArray e)) := by
  subst hgz
  obtain ⟨xs, hown, hrows⟩ := hO
  have hb0 : Below w0.heap.size w0 (w0.alloc (.cells cs.toArray e)) := (Below.refl _ w0).alloc (Nat.le_refl _) _
  refine wpList_append2 hgd s x t ho base e i z r.n bytes ht hi hz hsize hby hzs hsz v l.length xs hs (hown.alloc _) _ 1 1 cs hx (by intro h; cases h) (by rw [Nat.one_mul]; exact r.len _ _ _ _ hc) (cells_new _ cs e) h1 h63 hbytes (by simp; omega) ?_
  intro v' w' hown2 hg _ hw
  refine h v' w' (Own.append (hrows.below hb0) (by simpa using (RowsOf.nil r _ _).snoc (r.below hc hb0)) hown2 (by simp) hg hw) (Kept.push hg) ?_
  rcases hw with hw | ⟨g, hw, hgg⟩
  · exact .inl hw
  · exact .inr ⟨g, hw, by simp at hgg; omega⟩
theorem step_push {α : Type} (r : Rd α) {P : Program} {w0 : World} {ops : Array Oper} {o : Oper} {a : Act} {K : Act → World → Prop} {Q : Exit → Act → World → Prop} {E : Prop} (hgd : o.guard = none) (s x : Operand) (t : TypeId)
    (ho : o.op = .call { callee := .builtin .append, args := #[s, x], argTypes := #[t, t] })
    (base : Nat) (e : TypeId) (i : TypeInfo) (z : Value) (bytes : Nat) (ht : P.underlying t = some (.slice e)) (hi : P.info? e = some i) (hz : i.zero = some z)
    (hsize : i.size = r.n) (hby : i.bytes = bytes) (hzs : z.cells.size = r.n) (hsz : 0 < r.n)
    (S : Nat → Prop) (v : Value) (l : List α) (hs : a.eval s = v) (hO : Own r S w0 base e v l) (cs : List Value) (c : α) (g : Nat) (hx : a.eval x = .slice (some ⟨g, 0, none⟩) 1 1) (hgz : g = w0.heap.size)
    (hc : r.rel (fun b => S b ∧ some b ≠ v.ownBlock) w0 cs c) (h1 : ∀ u ∈ cs, u.oneCell' = true)
    (h63 : l.length + 1 ≤ maxLen) (hbytes : (l.length + 1) * bytes ≤ 140737488355328) (hbase : base ≤ w0.heap.size)
    (h : ∀ v' w', Own r S w' base e v' (l ++ [c]) → Kept (fun k => some k = v.ownBlock) w0 w' → (v'.ownBlock = v.ownBlock ∨ ∃ g, v'.ownBlock = some g ∧ w0.heap.size < g) → K (a.put o.dst v') w') :
    if Region.wanted o (yielded ops a.tmps) = true then Oper.wp P o a (w0.alloc (.cells cs.toArray e)) K Q else E := by
  subst hgz
  obtain ⟨xs, hown, hrows⟩ := hO
  have hb0 : Below w0.heap.size w0 (w0.alloc (.cells cs.toArray e)) := (Below.refl _ w0).alloc (Nat.le_refl _) _
  refine step_append2 hgd s x t ho base e i z r.n bytes ht hi hz hsize hby hzs hsz v l.length xs hs (hown.alloc _) _ 1 1 cs hx (by intro h; cases h) (by rw [Nat.one_mul]; exact r.len _ _ _ _ hc) (cells_new _ cs e) h1 h63 hbytes (by simp; omega) ?_
  intro v' w' hown2 hg _ hw
  refine h v' w' (Own.append (hrows.below hb0) (by simpa using (RowsOf.nil r _ _).snoc (r.below hc hb0)) hown2 (by simp) hg hw) (Kept.push hg) ?_
  rcases hw with hw | ⟨g, hw, hgg⟩
  · exact .inl hw
  · exact .inr ⟨g, hw, by simp at hgg; omega⟩
/-- 'append(l, m...)'. -/
theorem wpList_pushAll {α : Type} (r : Rd α) {P : Program} {w : World} {ops : Array Oper} {rest : List Oper} {o : Oper} {a : Act} {Q : Exit → Act → World → Prop} (hgd : o.guard = none) (s x : Operand) (t : TypeId)
    (ho : o.op = .call { callee := .builtin .append, args := #[s, x], argTypes := #[t, t] })
    (base : Nat) (e : TypeId) (i : TypeInfo) (z : Value) (bytes : Nat) (ht : P.underlying t = some (.slice e)) (hi : P.info? e = some i) (hz : i.zero = some z)
    (hsize : i.size = r.n) (hby : i.bytes = bytes) (hzs : z.cells.size = r.n) (hsz : 0 < r.n)
    (S : Nat → Prop) (v : Value) (l : List α) (hs : a.eval s = v) (hO : Own r S w base e v l) (ao : Option Addr) (cap : Nat) (m : List α) (hx : a.eval x = .slice ao m.length cap) (hnone : ao = none → cap = 0)
    (hm : SlAt r (fun b => S b ∧ some b ≠ v.ownBlock) w ao m) (h1 : ∀ S w cs c, r.rel S w cs c → ∀ u ∈ cs, u.oneCell' = true)
    (h63 : l.length + m.length ≤ maxLen) (hbytes : (l.length + m.length) * bytes ≤ 140737488355328) (hbase : base ≤ w.heap.size)
    (h : ∀ v' w', Own r S w' base e v' (l ++ m) → Kept (fun k => some k = v.ownBlock) w w' → (v'.ownBlock = v.ownBlock ∨ ∃ g, v'.ownBlock = some g ∧ w.heap.size ≤ g) → wpList P ops Q rest (a.put o.dst v') w') :
    wpList P ops Q (o :: rest) a w := by
  obtain ⟨xs, hown, hrows⟩ := hO
  obtain ⟨ys, hy1, hy2, hy3⟩ := hm.news
  refine wpList_append2 hgd s x t ho base e i z r.n bytes ht hi hz hsize hby hzs hsz v l.length xs hs hown ao m.length cap ys hx ?_ hy1 hy3 ?_ h63 hbytes hbase ?_
  · intro h0
    refine ⟨?_, hnone h0⟩
    rcases hm with rfl | ⟨b, off, h2, _⟩
    · rfl
    · rw [h0] at h2; cases h2
  · intro u hu
    obtain ⟨css, rfl, hl, hrel⟩ := hy2
    obtain ⟨cs, hcs, hu2⟩ := List.mem_flatten.1 hu
    obtain ⟨j, hj, rfl⟩ := List.getElem_of_mem hcs
    obtain ⟨cs', h3, h4⟩ := hrel j m[j] (by simp)
    rw [List.getElem?_eq_getElem hj] at h3
    rw [Option.some.inj h3] at hu2
    exact h1 _ _ _ _ h4 u hu2
  · intro v' w' hown2 hg _ hw
    exact h v' w' (Own.append hrows hy2 hown2 (by simp) hg hw) (Kept.of_grown hg) hw

theorem Own.rebase {α : Type} {r : Rd α} {S : Nat → Prop} {w : World} {base base' : Nat} {e : TypeId} {v : Value} {l : List α} (h : Own r S w base e v l) (hb : base' ≤ base) : Own r S w base' e v l := by
  obtain ⟨xs, h1, h2⟩ := h
  exact ⟨xs, own_base h1 (fun k hk => Nat.le_trans hb (h1.lt k hk).1), h2⟩
/-- A row of the call's own that is handed back. -/
def RowPost {α : Type} (r : Rd α) (e : TypeId) (l : List α) (w : World) (x : Ending) (w' : World) : Prop := ∃ ao cap, x = .returned (.slice ao l.length cap) ∧ Own r (fun _ => True) w' w.heap.size e (.slice ao l.length cap) l ∧ Below w.heap.size w w'
/-- One value that is handed back, all that was there as it was. -/
def BelowPost (v : Value) (w : World) (e : Ending) (w' : World) : Prop := e = .returned v ∧ Below w.heap.size w w'
def Wf (x : Int) : Prop := (Lit.int .i64 x).wf = true
theorem Wf.of {x : Int} (h1 : -9223372036854775808 ≤ x) (h2 : x ≤ 9223372036854775807) : Wf x := by
  simpa [Wf, Lit.wf, IntKind.min, IntKind.max, IntKind.signed, IntKind.bits] using ⟨h1, h2⟩
theorem drop_at2 {α : Type} {l : List α} {k : Nat} {c : α} (hk : l[k]? = some c) : l.drop k = c :: l.drop (k + 1) := by
  obtain ⟨h, rfl⟩ := List.getElem?_eq_some_iff.1 hk
  exact List.drop_eq_getElem_cons h
theorem take_at2 {α : Type} {l : List α} {k : Nat} {c : α} (hk : l[k]? = some c) : l.take (k + 1) = l.take k ++ [c] := by
  obtain ⟨h, rfl⟩ := List.getElem?_eq_some_iff.1 hk
  exact List.take_succ_eq_append_getElem h
theorem some_at {α : Type} {l : List α} {k : Nat} (h : k < l.length) : ∃ c, l[k]? = some c := ⟨l[k], List.getElem?_eq_getElem h⟩
theorem SlAt.here {α : Type} {r : Rd α} {S : Nat → Prop} {w : World} {ao : Option Addr} {l : List α} (h : SlAt r S w ao l) : SlAt r (· < w.heap.size) w ao l := h.mono (fun _ _ h => h)
theorem Own.here {α : Type} {r : Rd α} {S : Nat → Prop} {w : World} {base : Nat} {e : TypeId} {ao : Option Addr} {n cap : Nat} {l : List α} (h : Own r S w base e (.slice ao n cap) l) : SlAt r (· < w.heap.size) w ao l := h.sl.2.here
theorem SlAt.apart {α : Type} {r : Rd α} {B : Nat} {w : World} {ao : Option Addr} {l : List α} {v : Value} (h : SlAt r (· < B) w ao l) (hv : ∀ k, v.ownBlock = some k → B ≤ k) : SlAt r (fun b => True ∧ some b ≠ v.ownBlock) w ao l :=
  h.mono (fun b hb _ => ⟨trivial, fun e => by have := hv b e.symm; omega⟩)
theorem own_made {α : Type} (r : Rd α) (S : Nat → Prop) (w : World) (base : Nat) (e : TypeId) (hb : base ≤ w.heap.size) : Own r S (w.alloc (.cells #[] e)) base e (.slice (some ⟨w.heap.size, 0, none⟩) 0 0) [] := by
  refine ⟨[], ?_, RowsOf.nil _ _ _⟩
  refine ⟨by simp, .inr ⟨w.heap.size, 0, #[], rfl, hb, heap_alloc_new _ _, by simp, by simp [maxLen], by simp, by simp⟩⟩
theorem bcell {B : Nat} {W w1 : World} (hb : Below B W w1) : (∀ b o, b < B → w1.cell? ⟨b, o, none⟩ = W.cell? ⟨b, o, none⟩) ∧ (∀ b o, b < B → w1.frozen? ⟨b, o, none⟩ = W.frozen? ⟨b, o, none⟩) :=
  ⟨fun b o h => hb.cell (p := ⟨b, o, none⟩) h, fun b o h => hb.frozen (p := ⟨b, o, none⟩) h⟩
theorem bsize {B : Nat} {W w1 : World} (hb : Below B W w1) : W.heap.size ≤ w1.heap.size := hb.size
theorem bytes_drop (s : ByteArray) (k : Nat) (h : k < s.size) : s.data.toList.drop k = s.data.toList.getD k 0 :: s.data.toList.drop (k + 1) := by
  have hk : k < s.data.toList.length := by simpa using h
  rw [List.drop_eq_getElem_cons hk]
  simp [List.getD_eq_getElem?_getD, List.getElem?_eq_getElem hk]
theorem byte_list (s : ByteArray) : s.toList = s.data.toList := by
  have h : ∀ n i r, s.size - i = n → ByteArray.toList.loop s i r = r.reverse ++ s.data.toList.drop i := by
    intro n
    induction n with
    | zero =>
      intro i r h
      unfold ByteArray.toList.loop
      rw [if_neg (by omega), List.drop_of_length_le (by simp; omega)]
      simp
    | succ n ih =>
      intro i r h
      unfold ByteArray.toList.loop
      rw [if_pos (by omega), ih _ _ (by omega)]
      have hi : i < s.size := by omega
      rw [bytes_drop s i hi]
      simp [ByteArray.get!, List.getD_eq_getElem?_getD, getElem!_def]
      cases h2 : s.data[i]? with
      | some v => simp
      | none => rw [Array.getElem?_eq_none_iff] at h2; exfalso; have : s.size = s.data.size := rfl; omega
  unfold ByteArray.toList
  rw [h _ 0 [] rfl]
  simp
theorem str_ext {a b : ByteArray} (h : a.toList = b.toList) : a = b := ByteArray.ext (Array.toList_inj.1 (by rw [← byte_list, ← byte_list, h]))
theorem str_eq (a b : ByteArray) : (a.toList == b.toList) = decide (a = b) := by
  rw [Bool.eq_iff_iff]; simp; exact ⟨str_ext, fun h => by rw [h]⟩
end Lift
