/- The plate: how its data lie in memory. -/
import Derived.Test.YtaljgcdjkmpljaaDoorRows
import Derived.Handy
import Derived.Lib.Hide
import Derived.BigQuiet
import Derived.WalkSpells
import Derived.WalkLawsBesides
import Derived.Maps.AppendAt
import Derived.Deep.MidRow
import Derived.StillTailTactics
import Derived.Lib.LazyBuf
import Derived.Lib.BufferWrite
import Derived.Test.YtaljgcdjkmpljaaDoorRd2
namespace Go.Proofs.YtaljgcdjkmpljaaDoor
open Go.RowKit Lift
set_option linter.unusedSimpArgs false
set_option linter.unusedVariables false

abbrev Cs (l : List UInt8) : List Value := Lib.byteCells l
theorem cs_len (l : List UInt8) : (Cs l).length = l.length := Lib.byteCells_length l
theorem cs_one (l : List UInt8) : ∀ v ∈ Cs l, v.oneCell' = true := Lib.byteCells_one l
def rSec : Rd (List UInt8) where
  n := 64
  rel _ _ cs a := cs = Cs a ∧ a.length = 64
  len := by rintro _ w cs a ⟨rfl, h⟩; rw [cs_len, h]
  mono := fun _ _ _ _ _ h _ => h
  kept := fun _ _ _ _ _ _ h _ _ => h
theorem sec_flat : Flat rSec := fun _ _ _ _ _ _ h => h
abbrev Wr := Nat × List UInt8
def wrCells (a : Wr) : List Value := .int .i64 (a.1 : Int) :: Cs a.2
def rWr : Rd Wr where
  n := 65
  rel _ _ cs a := cs = wrCells a ∧ a.2.length = 64
  len := by rintro _ w cs a ⟨rfl, h⟩; simp [wrCells, cs_len, h]
  mono := fun _ _ _ _ _ h _ => h
  kept := fun _ _ _ _ _ _ h _ _ => h
theorem wr_flat : Flat rWr := fun _ _ _ _ _ _ h => h
theorem wr_one (a : Wr) : ∀ v ∈ wrCells a, v.oneCell' = true := by
  intro v hv
  rcases List.mem_cons.1 hv with rfl | hv
  · rfl
  · exact cs_one _ v hv

abbrev Secs := List (List UInt8)
/-- Where a plate lies. -/
structure Fp where
  b : Nat
  s : Nat
  m : Nat
  cs : Nat
  cm : Nat
  lv : Value
/-- What a plate has: sure, now, loose, the fuse, the power. -/
structure St where
  su : Secs
  no : Secs
  lo : List Wr
  fu : Int
  off : Bool
def plCells (F : Fp) (n : Nat) (st : St) : Array Value := #[.slice (some ⟨F.s, 0, none⟩) n F.cs, .slice (some ⟨F.m, 0, none⟩) n F.cm, F.lv, .int .i64 st.fu, .bool st.off]
/-- A block of a plate's. -/
def foot (F : Fp) (k : Nat) : Prop := k = F.b ∨ k = F.s ∨ k = F.m ∨ some k = F.lv.ownBlock
structure Raw (base : Nat) (w : World) (F : Fp) (st : St) : Prop where
  n1 : 1 ≤ st.no.length
  n2 : st.no.length ≤ 8192
  sn : st.su.length = st.no.length
  lat : ∀ x ∈ st.lo, x.1 < st.no.length
  fu1 : -1 ≤ st.fu
  fu2 : st.fu ≤ 9223372036854775807
  blk : w.heap[F.b]? = some (.cells (plCells F st.no.length st) 77 (0, 0))
  own1 : Own rSec (fun _ => True) w base 79 (.slice (some ⟨F.s, 0, none⟩) st.no.length F.cs) st.su
  own2 : Own rSec (fun _ => True) w base 79 (.slice (some ⟨F.m, 0, none⟩) st.no.length F.cm) st.no
  own3 : Own rWr (fun _ => True) w base 89 F.lv st.lo
  bb : base ≤ F.b
  a1 : F.s ≠ F.b
  a2 : F.m ≠ F.b
  a3 : F.s ≠ F.m
  a4 : F.lv.ownBlock ≠ some F.b
  a5 : F.lv.ownBlock ≠ some F.s
  a6 : F.lv.ownBlock ≠ some F.m
  nil : st.lo = [] → F.lv = .slice none 0 0

theorem Raw.lt {base : Nat} {w : World} {F : Fp} {st : St} (h : Raw base w F st) : F.b < w.heap.size ∧ F.s < w.heap.size ∧ F.m < w.heap.size ∧ ∀ k, F.lv.ownBlock = some k → k < w.heap.size :=
  ⟨(Array.getElem?_eq_some_iff.1 h.blk).1, (h.own1.lt _ rfl).2, (h.own2.lt _ rfl).2, fun k hk => (h.own3.lt _ hk).2⟩
theorem Raw.ge {base : Nat} {w : World} {F : Fp} {st : St} (h : Raw base w F st) : ∀ k, foot F k → base ≤ k := by
  rintro k (rfl | rfl | rfl | hk)
  · exact h.bb
  · exact (h.own1.lt _ rfl).1
  · exact (h.own2.lt _ rfl).1
  · exact (h.own3.lt _ hk.symm).1
theorem Raw.inb {base : Nat} {w : World} {F : Fp} {st : St} (h : Raw base w F st) : ∀ k, foot F k → k < w.heap.size := by
  obtain ⟨h1, h2, h3, h4⟩ := h.lt
  rintro k (rfl | rfl | rfl | hk)
  · exact h1
  · exact h2
  · exact h3
  · exact h4 k hk.symm
theorem Raw.kept {base : Nat} {w w' : World} {F : Fp} {st : St} {X : Nat → Prop} (h : Raw base w F st) (hk : Kept X w w') (hx : ∀ k, foot F k → ¬ X k) : Raw base w' F st :=
  { h with
    blk := (hk.block F.b h.lt.1 (hx _ (.inl rfl))).trans h.blk
    own1 := h.own1.flat sec_flat hk (fun k e => hx k (.inr (.inl (by injection e with e; exact e.symm))))
    own2 := h.own2.flat sec_flat hk (fun k e => hx k (.inr (.inr (.inl (by injection e with e; exact e.symm)))))
    own3 := h.own3.flat wr_flat hk (fun k e => hx k (.inr (.inr (.inr e.symm)))) }
theorem Raw.below {base : Nat} {w w' : World} {F : Fp} {st : St} (h : Raw base w F st) (hb : Below w.heap.size w w') : Raw base w' F st :=
  h.kept (Kept.of_below hb (fun _ => False)) (fun _ _ h => h)
theorem Raw.rebase {base base' : Nat} {w : World} {F : Fp} {st : St} (h : Raw base w F st) (hb : base' ≤ base) : Raw base' w F st :=
  { h with own1 := h.own1.rebase hb, own2 := h.own2.rebase hb, own3 := h.own3.rebase hb, bb := Nat.le_trans hb h.bb }

/-- The plate's own cells. -/
theorem Raw.cells {base : Nat} {w : World} {F : Fp} {st : St} (h : Raw base w F st) :
    w.cell? ⟨F.b, 0, none⟩ = some (.slice (some ⟨F.s, 0, none⟩) st.no.length F.cs) ∧ w.cell? ⟨F.b, 1, none⟩ = some (.slice (some ⟨F.m, 0, none⟩) st.no.length F.cm) ∧ w.cell? ⟨F.b, 2, none⟩ = some F.lv ∧
    w.cell? ⟨F.b, 3, none⟩ = some (.int .i64 st.fu) ∧ w.cell? ⟨F.b, 4, none⟩ = some (.bool st.off) :=
  ⟨cell_of_row w _ _ _ _ _ h.blk, cell_of_row w _ _ _ _ _ h.blk, cell_of_row w _ _ _ _ _ h.blk, cell_of_row w _ _ _ _ _ h.blk, cell_of_row w _ _ _ _ _ h.blk⟩
theorem Raw.free {base : Nat} {w : World} {F : Fp} {st : St} (h : Raw base w F st) (i : Nat) : w.frozen? ⟨F.b, i, none⟩ = false := frozen_of_row w _ _ _ _ h.blk
theorem plset2 (F : Fp) (n : Nat) (st : St) (v : Value) : (plCells F n st).setIfInBounds 2 v = plCells { F with lv := v } n st := rfl
theorem plset3 (F : Fp) (n : Nat) (st : St) (x : Int) : (plCells F n st).setIfInBounds 3 (.int .i64 x) = plCells F n { st with fu := x } := rfl
theorem plset4 (F : Fp) (n : Nat) (st : St) (x : Bool) : (plCells F n st).setIfInBounds 4 (.bool x) = plCells F n { st with off := x } := rfl
/-- A cell of the plate's own block is stored. -/
theorem Raw.set3 {base : Nat} {w : World} {F : Fp} {st : St} (h : Raw base w F st) {x : Int} (h1 : -1 ≤ x) (h2 : x ≤ 9223372036854775807) : Raw base (w.setCell ⟨F.b, 3, none⟩ (.int .i64 x)) F { st with fu := x } := by
  have hk := Kept.setCell (X := fun k => k = F.b) w (p := ⟨F.b, 3, none⟩) rfl (.int .i64 x)
  exact { h with
    fu1 := h1
    fu2 := h2
    blk := by rw [heap_setCell_same w _ 3 _ _ _ h.blk, plset3]
    own1 := h.own1.flat sec_flat hk (fun k e => by injection e with e; subst e; exact h.a1)
    own2 := h.own2.flat sec_flat hk (fun k e => by injection e with e; subst e; exact h.a2)
    own3 := h.own3.flat wr_flat hk (fun k e hh => by subst hh; exact h.a4 e) }
theorem Raw.set4 {base : Nat} {w : World} {F : Fp} {st : St} (h : Raw base w F st) (x : Bool) : Raw base (w.setCell ⟨F.b, 4, none⟩ (.bool x)) F { st with off := x } := by
  have hk := Kept.setCell (X := fun k => k = F.b) w (p := ⟨F.b, 4, none⟩) rfl (.bool x)
  exact { h with
    blk := by rw [heap_setCell_same w _ 4 _ _ _ h.blk, plset4]
    own1 := h.own1.flat sec_flat hk (fun k e => by injection e with e; subst e; exact h.a1)
    own2 := h.own2.flat sec_flat hk (fun k e => by injection e with e; subst e; exact h.a2)
    own3 := h.own3.flat wr_flat hk (fun k e hh => by subst hh; exact h.a4 e) }
/-- Other loose writes. -/
theorem Raw.set2 {base : Nat} {w : World} {F : Fp} {st : St} (h : Raw base w F st) {v : Value} {lo : List Wr} (h1 : Own rWr (fun _ => True) w base 89 v lo) (h2 : ∀ x ∈ lo, x.1 < st.no.length)
    (h3 : v.ownBlock ≠ some F.b) (h4 : v.ownBlock ≠ some F.s) (h5 : v.ownBlock ≠ some F.m) (h6 : lo = [] → v = .slice none 0 0) : Raw base (w.setCell ⟨F.b, 2, none⟩ v) { F with lv := v } { st with lo := lo } := by
  have hk := Kept.setCell (X := fun k => k = F.b) w (p := ⟨F.b, 2, none⟩) rfl v
  exact { h with
    lat := h2
    blk := by rw [heap_setCell_same w _ 2 _ _ _ h.blk, plset2]; rfl
    own1 := h.own1.flat sec_flat hk (fun k e => by injection e with e; subst e; exact h.a1)
    own2 := h.own2.flat sec_flat hk (fun k e => by injection e with e; subst e; exact h.a2)
    own3 := h1.flat wr_flat hk (fun k e hh => by subst hh; exact h3 e)
    a4 := h3
    a5 := h4
    a6 := h5
    nil := h6 }
/-- A sector of 'sure' is stored. -/
theorem Raw.setS {base : Nat} {w : World} {F : Fp} {st : St} (h : Raw base w F st) {k : Nat} (hk : k < st.no.length) {d : List UInt8} (hd : d.length = 64) :
    Raw base (w.setCells F.s (k * 64) (Cs d)) F { st with su := st.su.set k d } ∧ Kept (fun j => j = F.s) w (w.setCells F.s (k * 64) (Cs d)) := by
  obtain ⟨h1, h2⟩ := h.own1.store (k := k) (by have := h.sn; omega) (cs := Cs d) (c := d) ⟨rfl, hd⟩
  refine ⟨?_, h2⟩
  exact { h with
    sn := by simpa using h.sn
    blk := (h2.block F.b h.lt.1 (fun e => h.a1 e.symm)).trans h.blk
    own1 := h1
    own2 := h.own2.flat sec_flat h2 (fun k e => by injection e with e; subst e; exact fun e => h.a3 e.symm)
    own3 := h.own3.flat wr_flat h2 (fun k e hh => by subst hh; exact h.a5 e) }
/-- A sector of 'now' is stored. -/
theorem Raw.setN {base : Nat} {w : World} {F : Fp} {st : St} (h : Raw base w F st) {k : Nat} (hk : k < st.no.length) {d : List UInt8} (hd : d.length = 64) :
    Raw base (w.setCells F.m (k * 64) (Cs d)) F { st with no := st.no.set k d } ∧ Kept (fun j => j = F.m) w (w.setCells F.m (k * 64) (Cs d)) := by
  obtain ⟨h1, h2⟩ := h.own2.store (k := k) hk (cs := Cs d) (c := d) ⟨rfl, hd⟩
  have e64 : rSec.n = 64 := rfl
  rw [e64] at h1 h2
  refine ⟨?_, h2⟩
  exact { h with
    n1 := by simpa using h.n1
    n2 := by simpa using h.n2
    sn := by simpa using h.sn
    lat := by simpa using h.lat
    blk := by simpa [plCells] using (h2.block F.b h.lt.1 (fun e => h.a2 e.symm)).trans h.blk
    own1 := by simpa using h.own1.flat sec_flat h2 (fun k e => by injection e with e; subst e; exact h.a3)
    own2 := by simpa using h1
    own3 := h.own3.flat wr_flat h2 (fun k e hh => by subst hh; exact h.a6 e) }
/-- A sector's cells. -/
theorem own_sec {base : Nat} {w : World} {g n cap : Nat} {l : Secs} (h : Own rSec (fun _ => True) w base 79 (.slice (some ⟨g, 0, none⟩) n cap) l) {k : Nat} {d : List UInt8} (hk : l[k]? = some d) :
    w.rangeAt g (k * 64) (Cs d) ∧ w.there g (k * 64) 64 ∧ d.length = 64 := by
  obtain ⟨cs, ⟨rfl, hd⟩, hc⟩ := h.at hk
  refine ⟨fun j v hj => hc j v hj, fun j hj => ⟨?_, h.free _⟩, hd⟩
  have hj2 : j < (Cs d).length := by rw [cs_len, hd]; exact hj
  rw [show w.cell? ⟨g, k * 64 + j, none⟩ = _ from hc j _ (List.getElem?_eq_getElem hj2)]
  rfl
theorem own_wr {base : Nat} {w : World} {v : Value} {l : List Wr} (h : Own rWr (fun _ => True) w base 89 v l) {k : Nat} {d : Wr} (hk : l[k]? = some d) :
    ∃ g cap, v = .slice (some ⟨g, 0, none⟩) l.length cap ∧ base ≤ g ∧ w.rangeAt g (k * 65) (wrCells d) ∧ d.2.length = 64 := by
  obtain ⟨ao, cap, rfl⟩ := h.form
  have hn : Value.ownBlock (.slice ao l.length cap) ≠ none := by
    obtain ⟨xs, h1, _⟩ := h
    rcases h1.2 with ⟨e1, e2⟩ | ⟨g, cap', cur, e1, _⟩
    · have := (List.getElem?_eq_some_iff.1 hk).1
      omega
    · injection e1 with e1; subst e1; simp [Value.ownBlock]
  obtain ⟨g, rfl⟩ := h.block hn
  obtain ⟨cs, ⟨rfl, hd⟩, hc⟩ := h.at hk
  exact ⟨g, cap, rfl, (h.lt g rfl).1, fun j v hj => hc j v hj, hd⟩

/-! ### Types -/
theorem u_sec : Tryd.prog.underlying 79 = some (.array 64 5) := by kernel_rfl
theorem i_sec : (Tryd.prog.info? 79).map (·.size) = some 64 := by kernel_rfl
theorem i_wr : (Tryd.prog.info? 89).map (·.size) = some 65 := by kernel_rfl
theorem u_wr0 : (Tryd.prog.underlying 89).map TypeDesc.isRow = some true := by kernel_rfl
theorem u_wr : ∃ d, Tryd.prog.underlying 89 = some d ∧ d.isRow = true := by
  have := u_wr0
  cases h : Tryd.prog.underlying 89 with
  | none => rw [h] at this; cases this
  | some d => rw [h] at this; exact ⟨d, rfl, by simpa using this⟩
theorem cs_info (d : List UInt8) (hd : d.length = 64) : (Tryd.prog.info? 79).map (·.size) = some (Cs d).length := by rw [i_sec, cs_len, hd]
theorem wr_info (d : Wr) (hd : d.2.length = 64) : (Tryd.prog.info? 89).map (·.size) = some (wrCells d).length := by rw [i_wr]; simp [wrCells, cs_len, hd]
end Go.Proofs.YtaljgcdjkmpljaaDoor
