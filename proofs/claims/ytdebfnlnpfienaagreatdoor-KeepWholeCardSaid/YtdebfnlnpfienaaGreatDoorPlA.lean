/- The plate: how its data lie in memory. -/
import Derived.Test.YtdebfnlnpfienaaGreatDoorRows
import Derived.Handy
import Derived.Lib.Hide
import Derived.BigQuiet
import Derived.WalkSpells
import Derived.WalkLawsBesides
import Derived.Maps.AppendAt
import Derived.Deep.MidRow
import Derived.StillTailTactics
import Derived.Lib.LazyBuf
import Derived.Lib.BufferWrite
import Derived.Test.YtdebfnlnpfienaaGreatDoorRd2
import Derived.Deep.WholeRow
import Derived.Great.BuildSlice
import Derived.Deep.RegionLaw
import Derived.Deep.RegionHeld3
import Derived.Deep.QuietTactic
import Derived.IntWalk
namespace Go.Proofs.YtdebfnlnpfienaaGreatDoor
open Go.RowKit Lift
set_option linter.unusedSimpArgs false
set_option linter.unusedVariables false

abbrev Cs (l : List UInt8) : List Value := Lib.byteCells l
theorem cs_len (l : List UInt8) : (Cs l).length = l.length := Lib.byteCells_length l
theorem cs_one (l : List UInt8) : ∀ v ∈ Cs l, v.oneCell' = true := Lib.byteCells_one l
def rSec : Rd (List UInt8) where
  n := 64
  rel _ _ cs a := cs = Cs a ∧ a.length = 64
  len := by rintro _ w cs a ⟨rfl, h⟩; rw [cs_len, h]
  mono := fun _ _ _ _ _ h _ => h
  kept := fun _ _ _ _ _ _ h _ _ => h
theorem sec_flat : Flat rSec := fun _ _ _ _ _ _ h => h
abbrev Wr := Nat × List UInt8
def wrCells (a : Wr) : List Value := .int .i64 (a.1 : Int) :: Cs a.2
def rWr : Rd Wr where
  n := 65
  rel _ _ cs a := cs = wrCells a ∧ a.2.length = 64
  len := by rintro _ w cs a ⟨rfl, h⟩; simp [wrCells, cs_len, h]
  mono := fun _ _ _ _ _ h _ => h
  kept := fun _ _ _ _ _ _ h _ _ => h
theorem wr_flat : Flat rWr := fun _ _ _ _ _ _ h => h
theorem wr_one (a : Wr) : ∀ v ∈ wrCells a, v.oneCell' = true := by
  intro v hv
  rcases List.mem_cons.1 hv with rfl | hv
  · rfl
  · exact cs_one _ v hv

abbrev Secs := List (List UInt8)
/-- Where a plate lies. -/
structure Fp where
  b : Nat
  s : Nat
  m : Nat
  cs : Nat
  cm : Nat
  lv : Value
/-- What a plate has: sure, now, loose, the fuse, the power. -/
structure St where
  su : Secs
  no : Secs
  lo : List Wr
  fu : Int
  off : Bool
def plCells (F : Fp) (n : Nat) (st : St) : Array Value := #[.slice (some ⟨F.s, 0, none⟩) n F.cs, .slice (some ⟨F.m, 0, none⟩) n F.cm, F.lv, .int .i64 st.fu, .bool st.off]
/-- A block of a plate's. -/
def foot (F : Fp) (k : Nat) : Prop := k = F.b ∨ k = F.s ∨ k = F.m ∨ some k = F.lv.ownBlock
structure Raw (base : Nat) (w : World) (F : Fp) (st : St) : Prop where
  n1 : 1 ≤ st.no.length
  n2 : st.no.length ≤ 8192
  sn : st.su.length = st.no.length
  lat : ∀ x ∈ st.lo, x.1 < st.no.length
  fu1 : -1 ≤ st.fu
  fu2 : st.fu ≤ 9223372036854775807
  blk : w.heap[F.b]? = some (.cells (plCells F st.no.length st) 57 (0, 0))
  own1 : Own rSec (fun _ => True) w base 80 (.slice (some ⟨F.s, 0, none⟩) st.no.length F.cs) st.su
  own2 : Own rSec (fun _ => True) w base 80 (.slice (some ⟨F.m, 0, none⟩) st.no.length F.cm) st.no
  own3 : Own rWr (fun _ => True) w base 82 F.lv st.lo
  bb : base ≤ F.b
  a1 : F.s ≠ F.b
  a2 : F.m ≠ F.b
  a3 : F.s ≠ F.m
  a4 : F.lv.ownBlock ≠ some F.b
  a5 : F.lv.ownBlock ≠ some F.s
  a6 : F.lv.ownBlock ≠ some F.m
  nil : st.lo = [] → F.lv = .slice none 0 0

theorem Raw.lt {base : Nat} {w : World} {F : Fp} {st : St} (h : Raw base w F st) : F.b < w.heap.size ∧ F.s < w.heap.size ∧ F.m < w.heap.size ∧ ∀ k, F.lv.ownBlock = some k → k < w.heap.size :=
  ⟨(Array.getElem?_eq_some_iff.1 h.blk).1, (h.own1.lt _ rfl).2, (h.own2.lt _ rfl).2, fun k hk => (h.own3.lt _ hk).2⟩
theorem Raw.ge {base : Nat} {w : World} {F : Fp} {st : St} (h : Raw base w F st) : ∀ k, foot F k → base ≤ k := by
  rintro k (rfl | rfl | rfl | hk)
  · exact h.bb
  · exact (h.own1.lt _ rfl).1
  · exact (h.own2.lt _ rfl).1
  · exact (h.own3.lt _ hk.symm).1
theorem Raw.inb {base : Nat} {w : World} {F : Fp} {st : St} (h : Raw base w F st) : ∀ k, foot F k → k < w.heap.size := by
  obtain ⟨h1, h2, h3, h4⟩ := h.lt
  rintro k (rfl | rfl | rfl | hk)
  · exact h1
  · exact h2
  · exact h3
  · exact h4 k hk.symm
theorem Raw.kept {base : Nat} {w w' : World} {F : Fp} {st : St} {X : Nat → Prop} (h : Raw base w F st) (hk : Kept X w w') (hx : ∀ k, foot F k → ¬ X k) : Raw base w' F st :=
  { h with
    blk := (hk.block F.b h.lt.1 (hx _ (.inl rfl))).trans h.blk
    own1 := h.own1.flat sec_flat hk (fun k e => hx k (.inr (.inl (by injection e with e; exact e.symm))))
    own2 := h.own2.flat sec_flat hk (fun k e => hx k (.inr (.inr (.inl (by injection e with e; exact e.symm)))))
    own3 := h.own3.flat wr_flat hk (fun k e => hx k (.inr (.inr (.inr e.symm)))) }
theorem Raw.below {base : Nat} {w w' : World} {F : Fp} {st : St} (h : Raw base w F st) (hb : Below w.heap.size w w') : Raw base w' F st :=
  h.kept (Kept.of_below hb (fun _ => False)) (fun _ _ h => h)
theorem Raw.rebase {base base' : Nat} {w : World} {F : Fp} {st : St} (h : Raw base w F st) (hb : base' ≤ base) : Raw base' w F st :=
  { h with own1 := h.own1.rebase hb, own2 := h.own2.rebase hb, own3 := h.own3.rebase hb, bb := Nat.le_trans hb h.bb }

/-- The plate's own cells. -/
theorem Raw.cells {base : Nat} {w : World} {F : Fp} {st : St} (h : Raw base w F st) :
    w.cell? ⟨F.b, 0, none⟩ = some (.slice (some ⟨F.s, 0, none⟩) st.no.length F.cs) ∧ w.cell? ⟨F.b, 1, none⟩ = some (.slice (some ⟨F.m, 0, none⟩) st.no.length F.cm) ∧ w.cell? ⟨F.b, 2, none⟩ = some F.lv ∧
    w.cell? ⟨F.b, 3, none⟩ = some (.int .i64 st.fu) ∧ w.cell? ⟨F.b, 4, none⟩ = some (.bool st.off) :=
  ⟨cell_of_row w _ _ _ _ _ h.blk, cell_of_row w _ _ _ _ _ h.blk, cell_of_row w _ _ _ _ _ h.blk, cell_of_row w _ _ _ _ _ h.blk, cell_of_row w _ _ _ _ _ h.blk⟩
theorem Raw.free {base : Nat} {w : World} {F : Fp} {st : St} (h : Raw base w F st) (i : Nat) : w.frozen? ⟨F.b, i, none⟩ = false := frozen_of_row w _ _ _ _ h.blk
theorem plset2 (F : Fp) (n : Nat) (st : St) (v : Value) : (plCells F n st).setIfInBounds 2 v = plCells { F with lv := v } n st := rfl
theorem plset3 (F : Fp) (n : Nat) (st : St) (x : Int) : (plCells F n st).setIfInBounds 3 (.int .i64 x) = plCells F n { st with fu := x } := rfl
theorem plset4 (F : Fp) (n : Nat) (st : St) (x : Bool) : (plCells F n st).setIfInBounds 4 (.bool x) = plCells F n { st with off := x } := rfl
/-- A cell of the plate's own block is stored. -/
theorem Raw.set3 {base : Nat} {w : World} {F : Fp} {st : St} (h : Raw base w F st) {x : Int} (h1 : -1 ≤ x) (h2 : x ≤ 9223372036854775807) : Raw base (w.setCell ⟨F.b, 3, none⟩ (.int .i64 x)) F { st with fu := x } := by
  have hk := Kept.setCell (X := fun k => k = F.b) w (p := ⟨F.b, 3, none⟩) rfl (.int .i64 x)
  exact { h with
    fu1 := h1
    fu2 := h2
    blk := by rw [heap_setCell_same w _ 3 _ _ _ h.blk, plset3]
    own1 := h.own1.flat sec_flat hk (fun k e => by injection e with e; subst e; exact h.a1)
    own2 := h.own2.flat sec_flat hk (fun k e => by injection e with e; subst e; exact h.a2)
    own3 := h.own3.flat wr_flat hk (fun k e hh => by subst hh; exact h.a4 e) }
theorem Raw.set4 {base : Nat} {w : World} {F : Fp} {st : St} (h : Raw base w F st) (x : Bool) : Raw base (w.setCell ⟨F.b, 4, none⟩ (.bool x)) F { st with off := x } := by
  have hk := Kept.setCell (X := fun k => k = F.b) w (p := ⟨F.b, 4, none⟩) rfl (.bool x)
  exact { h with
    blk := by rw [heap_setCell_same w _ 4 _ _ _ h.blk, plset4]
    own1 := h.own1.flat sec_flat hk (fun k e => by injection e with e; subst e; exact h.a1)
    own2 := h.own2.flat sec_flat hk (fun k e => by injection e with e; subst e; exact h.a2)
    own3 := h.own3.flat wr_flat hk (fun k e hh => by subst hh; exact h.a4 e) }
/-- Other loose writes. -/
theorem Raw.set2 {base : Nat} {w : World} {F : Fp} {st : St} (h : Raw base w F st) {v : Value} {lo : List Wr} (h1 : Own rWr (fun _ => True) w base 82 v lo) (h2 : ∀ x ∈ lo, x.1 < st.no.length)
    (h3 : v.ownBlock ≠ some F.b) (h4 : v.ownBlock ≠ some F.s) (h5 : v.ownBlock ≠ some F.m) (h6 : lo = [] → v = .slice none 0 0) : Raw base (w.setCell ⟨F.b, 2, none⟩ v) { F with lv := v } { st with lo := lo } := by
  have hk := Kept.setCell (X := fun k => k = F.b) w (p := ⟨F.b, 2, none⟩) rfl v
  exact { h with
    lat := h2
    blk := by rw [heap_setCell_same w _ 2 _ _ _ h.blk, plset2]; rfl
    own1 := h.own1.flat sec_flat hk (fun k e => by injection e with e; subst e; exact h.a1)
    own2 := h.own2.flat sec_flat hk (fun k e => by injection e with e; subst e; exact h.a2)
    own3 := h1.flat wr_flat hk (fun k e hh => by subst hh; exact h3 e)
    a4 := h3
    a5 := h4
    a6 := h5
    nil := h6 }
/-- A sector of 'sure' is stored. -/
theorem Raw.setS {base : Nat} {w : World} {F : Fp} {st : St} (h : Raw base w F st) {k : Nat} (hk : k < st.no.length) {d : List UInt8} (hd : d.length = 64) :
    Raw base (w.setCells F.s (k * 64) (Cs d)) F { st with su := st.su.set k d } ∧ Kept (fun j => j = F.s) w (w.setCells F.s (k * 64) (Cs d)) := by
  obtain ⟨h1, h2⟩ := h.own1.store (k := k) (by have := h.sn; omega) (cs := Cs d) (c := d) ⟨rfl, hd⟩
  refine ⟨?_, h2⟩
  exact { h with
    sn := by simpa using h.sn
    blk := (h2.block F.b h.lt.1 (fun e => h.a1 e.symm)).trans h.blk
    own1 := h1
    own2 := h.own2.flat sec_flat h2 (fun k e => by injection e with e; subst e; exact fun e => h.a3 e.symm)
    own3 := h.own3.flat wr_flat h2 (fun k e hh => by subst hh; exact h.a5 e) }
/-- A sector of 'now' is stored. -/
theorem Raw.setN {base : Nat} {w : World} {F : Fp} {st : St} (h : Raw base w F st) {k : Nat} (hk : k < st.no.length) {d : List UInt8} (hd : d.length = 64) :
    Raw base (w.setCells F.m (k * 64) (Cs d)) F { st with no := st.no.set k d } ∧ Kept (fun j => j = F.m) w (w.setCells F.m (k * 64) (Cs d)) := by
  obtain ⟨h1, h2⟩ := h.own2.store (k := k) hk (cs := Cs d) (c := d) ⟨rfl, hd⟩
  have e64 : rSec.n = 64 := rfl
  rw [e64] at h1 h2
  refine ⟨?_, h2⟩
  exact { h with
    n1 := by simpa using h.n1
    n2 := by simpa using h.n2
    sn := by simpa using h.sn
    lat := by simpa using h.lat
    blk := by simpa [plCells] using (h2.block F.b h.lt.1 (fun e => h.a2 e.symm)).trans h.blk
    own1 := by simpa using h.own1.flat sec_flat h2 (fun k e => by injection e with e; subst e; exact h.a3)
    own2 := by simpa using h1
    own3 := h.own3.flat wr_flat h2 (fun k e hh => by subst hh; exact h.a6 e) }
/-- A sector's cells. -/
theorem own_sec {base : Nat} {w : World} {g n cap : Nat} {l : Secs} (h : Own rSec (fun _ => True) w base 80 (.slice (some ⟨g, 0, none⟩) n cap) l) {k : Nat} {d : List UInt8} (hk : l[k]? = some d) :
    w.rangeAt g (k * 64) (Cs d) ∧ w.there g (k * 64) 64 ∧ d.length = 64 := by
  obtain ⟨cs, ⟨rfl, hd⟩, hc⟩ := h.at hk
  refine ⟨fun j v hj => hc j v hj, fun j hj => ⟨?_, h.free _⟩, hd⟩
  have hj2 : j < (Cs d).length := by rw [cs_len, hd]; exact hj
  rw [show w.cell? ⟨g, k * 64 + j, none⟩ = _ from hc j _ (List.getElem?_eq_getElem hj2)]
  rfl
theorem own_wr {base : Nat} {w : World} {v : Value} {l : List Wr} (h : Own rWr (fun _ => True) w base 82 v l) {k : Nat} {d : Wr} (hk : l[k]? = some d) :
    ∃ g cap, v = .slice (some ⟨g, 0, none⟩) l.length cap ∧ base ≤ g ∧ w.rangeAt g (k * 65) (wrCells d) ∧ d.2.length = 64 := by
  obtain ⟨ao, cap, rfl⟩ := h.form
  have hn : Value.ownBlock (.slice ao l.length cap) ≠ none := by
    obtain ⟨xs, h1, _⟩ := h
    rcases h1.2 with ⟨e1, e2⟩ | ⟨g, cap', cur, e1, _⟩
    · have := (List.getElem?_eq_some_iff.1 hk).1
      omega
    · injection e1 with e1; subst e1; simp [Value.ownBlock]
  obtain ⟨g, rfl⟩ := h.block hn
  obtain ⟨cs, ⟨rfl, hd⟩, hc⟩ := h.at hk
  exact ⟨g, cap, rfl, (h.lt g rfl).1, fun j v hj => hc j v hj, hd⟩

/-! ### Types -/
theorem u_sec : Tryz.prog.underlying 80 = some (.array 64 5) := by kernel_rfl
theorem i_sec : (Tryz.prog.info? 80).map (·.size) = some 64 := by kernel_rfl
theorem i_wr : (Tryz.prog.info? 82).map (·.size) = some 65 := by kernel_rfl
theorem u_wr0 : (Tryz.prog.underlying 82).map TypeDesc.isRow = some true := by kernel_rfl
theorem u_wr : ∃ d, Tryz.prog.underlying 82 = some d ∧ d.isRow = true := by
  have := u_wr0
  cases h : Tryz.prog.underlying 82 with
  | none => rw [h] at this; cases this
  | some d => rw [h] at this; exact ⟨d, rfl, by simpa using this⟩
theorem cs_info (d : List UInt8) (hd : d.length = 64) : (Tryz.prog.info? 80).map (·.size) = some (Cs d).length := by rw [i_sec, cs_len, hd]
theorem wr_info (d : Wr) (hd : d.2.length = 64) : (Tryz.prog.info? 82).map (·.size) = some (wrCells d).length := by rw [i_wr]; simp [wrCells, cs_len, hd]
end Go.Proofs.YtdebfnlnpfienaaGreatDoor

/- The plate's small methods: there, burn, Down, Loose, Size, Fuse, Get. -/
namespace Go.Proofs.YtdebfnlnpfienaaGreatDoor
open Go.RowKit Lift
set_option linter.unusedSimpArgs false
set_option linter.unusedVariables false

def thereE (st : St) (x : Int) : Int := if st.off then 12 else if x < 0 ∨ (st.no.length : Int) ≤ x then 2 else 0
set_option maxHeartbeats 1000000 in
set_option maxRecDepth 100000 in
theorem there_any {base : Nat} {w : World} {F : Fp} {st : St} (h : Raw base w F st) (x : Int) :
    Calls Tryz.prog 75 #[.pointer (some ⟨F.b, 0, none⟩), .int .i64 x] w (fun e w' => e = .returned (.int .i64 (thereE st x)) ∧ w = w') := by
  obtain ⟨c0, c1, c2, c3, c4⟩ := h.cells
  clear h
  obtain ⟨su, no, lo, fu, off⟩ := st
  unfold thereE
  simp only at c0 c1 c2 c3 c4 ⊢
  cases off with
  | true =>
    go_enter Tryz.func75, Tryz.ntmps75
    go_wp2_with fail
    go_ret
    exact ⟨rfl, rfl⟩
  | false =>
    by_cases h0 : x < 0
    · have hd : decide (x < 0) = true := by simpa using h0
      rw [if_neg (by simp), if_pos (.inl h0)]
      clear h0
      go_enter Tryz.func75, Tryz.ntmps75
      go_wp2_with fail
      go_ret
      exact ⟨rfl, rfl⟩
    · have hd : decide (x < 0) = false := by simpa using h0
      by_cases h1 : (no.length : Int) ≤ x
      · have hd1 : decide ((no.length : Int) ≤ x) = true := by simpa using h1
        rw [if_neg (by simp), if_pos (.inr h1)]
        clear h0 h1
        go_enter Tryz.func75, Tryz.ntmps75
        go_wp2_with fail
        go_ret
        exact ⟨rfl, rfl⟩
      · have hd1 : decide ((no.length : Int) ≤ x) = false := by simpa using h1
        rw [if_neg (by simp), if_neg (by simpa using ⟨by omega, by omega⟩)]
        clear h0 h1
        go_enter Tryz.func75, Tryz.ntmps75
        go_wp2_with fail
        go_ret
        exact ⟨rfl, rfl⟩

/-- A step is done, or the power goes off. -/
def burnS (st : St) : St := if st.fu = 0 then { st with off := true } else if 0 < st.fu then { st with fu := st.fu - 1 } else st
def burnE (st : St) : Int := if st.fu = 0 then 12 else 0
def RawPost (base : Nat) (F : Fp) (st : St) (v : Value) (w : World) (e : Ending) (w' : World) : Prop := e = .returned v ∧ Raw base w' F st ∧ Kept (fun k => k = F.b) w w'
set_option maxHeartbeats 1000000 in
set_option maxRecDepth 100000 in
theorem burn_any {base : Nat} {w : World} {F : Fp} {st : St} (h : Raw base w F st) :
    Calls Tryz.prog 76 #[.pointer (some ⟨F.b, 0, none⟩)] w (RawPost base F (burnS st) (.int .i64 (burnE st)) w) := by
  obtain ⟨c0, c1, c2, c3, c4⟩ := h.cells
  have f3 := h.free 3
  have f4 := h.free 4
  have hu1 := h.fu1
  have hu2 := h.fu2
  have H := Lib.hid h
  clear h
  unfold burnS burnE
  have hw := Kept.refl (fun k => k = F.b) w
  by_cases h0 : st.fu = 0
  · have hd : (st.fu == 0) = true := by simpa using h0
    rw [if_pos h0, if_pos h0]
    clear h0
    go_enter Tryz.func76, Tryz.ntmps76
    go_wp2_with fail
    go_ret
    exact ⟨rfl, H.out.set4 true, hw.set rfl⟩
  · have hd : (st.fu == 0) = false := by simpa using h0
    rw [if_neg h0, if_neg h0]
    clear h0
    by_cases h1 : 0 < st.fu
    · have hd1 : decide (0 < st.fu) = true := by simpa using h1
      rw [if_pos h1]
      go_enter Tryz.func76, Tryz.ntmps76
      go_wp2_with fail
      go_ret
      exact ⟨rfl, H.out.set3 (by omega) (by omega), hw.set rfl⟩
    · have hd1 : decide (0 < st.fu) = false := by simpa using h1
      rw [if_neg h1]
      go_enter Tryz.func76, Tryz.ntmps76
      go_wp2_with fail
      go_ret
      exact ⟨rfl, H.out, hw⟩
set_option maxHeartbeats 1000000 in
set_option maxRecDepth 100000 in
theorem size_any {base : Nat} {w : World} {F : Fp} {st : St} (h : Raw base w F st) : Calls Tryz.prog 19 #[.pointer (some ⟨F.b, 0, none⟩)] w (IntPost .i64 st.no.length w) := by
  obtain ⟨c0, c1, c2, c3, c4⟩ := h.cells
  clear h
  go_enter Tryz.func19, Tryz.ntmps19
  go_wp2_with fail
  go_ret
  exact ⟨rfl, rfl⟩
/-- No value. -/
def VoidRaw (base : Nat) (F F' : Fp) (st : St) (w : World) (e : Ending) (w' : World) : Prop := e = .returned (.tuple #[]) ∧ Raw base w' F' st ∧ Kept (foot F) w w'
theorem foot_b {F : Fp} {w w' : World} (h : Kept (fun k => k = F.b) w w') : Kept (foot F) w w' := h.wide (fun k _ e => .inl e)
set_option maxHeartbeats 1000000 in
set_option maxRecDepth 100000 in
theorem fuse_any {base : Nat} {w : World} {F : Fp} {st : St} (h : Raw base w F st) (n : Int) (hn1 : -9223372036854775808 ≤ n) (hn2 : n ≤ 9223372036854775807) :
    Calls Tryz.prog 15 #[.pointer (some ⟨F.b, 0, none⟩), .int .i64 n] w (VoidRaw base F F { st with fu := max n (-1) } w) := by
  have c3 := h.cells.2.2.2.1
  have f3 := h.free 3
  have H := Lib.hid h
  clear h
  have hw := Kept.refl (fun k => k = F.b) w
  by_cases hm : -1 ≤ n
  · have hd : decide (n < -1) = false := by simpa using hm
    have e : max n (-1) = n := by omega
    rw [e]
    go_enter Tryz.func15, Tryz.ntmps15
    go_wp2_with fail
    go_end0
    exact ⟨rfl, H.out.set3 hm hn2, foot_b (hw.set rfl)⟩
  · have hd : decide (n < -1) = true := by simpa using hm
    have e : max n (-1) = -1 := by omega
    rw [e]
    replace hm : n < -1 := by omega
    go_enter Tryz.func15, Tryz.ntmps15
    go_wp2_with fail
    go_end0
    exact ⟨rfl, H.out.set3 (by omega) (by omega), foot_b (hw.set rfl)⟩

theorem mk_bytes {l m : List UInt8} (h : l = m) : (⟨l.toArray⟩ : ByteArray) = ⟨m.toArray⟩ := by rw [h]
theorem sec_string {base : Nat} {w : World} {g n cap : Nat} {l : Secs} (h : Own rSec (fun _ => True) w base 80 (.slice (some ⟨g, 0, none⟩) n cap) l) {k : Nat} {d : List UInt8} (hk : l[k]? = some d) :
    (convert 83 9 (.slice (some ⟨g, k * 64, none⟩) 64 64)).run Tryz.prog w = .ok (.string ⟨d.toArray⟩) w := by
  obtain ⟨h1, _, h3⟩ := own_sec h hk
  rw [← h3]
  refine run_convert_bytes_back w 83 9 5 ⟨g, k * d.length, none⟩ d.length d Tryz.underlying83 Tryz.underlying5 Tryz.underlying9 ?_
  intro j hj
  rw [Addr.add_mid, h3]
  exact h1 j _ (by simp [Lib.byteCells, hj])
def getV (st : St) (x : Int) : Value := if thereE st x = 0 then .tuple #[.string ⟨(st.no.getD x.toNat []).toArray⟩, .int .i64 0] else .tuple #[.string ⟨#[]⟩, .int .i64 (thereE st x)]
theorem thereE_zero {st : St} {x : Int} (h : thereE st x = 0) : ∃ k : Nat, x = (k : Int) ∧ k < st.no.length ∧ st.off = false := by
  unfold thereE at h
  split at h
  · cases h
  · split at h
    · cases h
    · exact ⟨x.toNat, by omega, by omega, by simpa using ‹¬ st.off = true›⟩
set_option maxHeartbeats 1000000 in
set_option maxRecDepth 100000 in
theorem get_any {base : Nat} {w : World} {F : Fp} {st : St} (h : Raw base w F st) (x : Int) :
    Calls Tryz.prog 63 #[.pointer (some ⟨F.b, 0, none⟩), .int .i64 x] w (fun e w' => e = .returned (getV st x) ∧ w = w') := by
  have HT := Lib.hid (there_any h x)
  by_cases h0 : thereE st x = 0
  · obtain ⟨k, rfl, hk, hoff⟩ := thereE_zero h0
    obtain ⟨d, hd⟩ := some_at hk
    obtain ⟨c0, c1, c2, c3, c4⟩ := h.cells
    have hst := sec_string h.own2 hd
    have hn2 := h.n2
    have e : getV st k = .tuple #[.string ⟨d.toArray⟩, .int .i64 0] := by simp [getV, h0, List.getD_eq_getElem?_getD, hd]
    rw [e]
    rw [h0] at HT
    have hk2 : (k : Int) < (st.no.length : Int) := by omega
    have hk3 : k ≤ 8192 := by omega
    clear e h0 hd h hoff hn2
    go_enter Tryz.func63, Tryz.ntmps63
    go_wp2_with ((with_reducible refine (HT.out).mono ?_); rintro e w' ⟨rfl, rfl⟩)
    go_ret2
    exact ⟨rfl, rfl⟩
  · have e : getV st x = .tuple #[.string ⟨#[]⟩, .int .i64 (thereE st x)] := by simp [getV, h0]
    rw [e]
    have hne : (thereE st x == 0) = false := by simpa using h0
    have hne2 : (thereE st x != 0) = true := by simpa using h0
    generalize thereE st x = y at *
    clear e h0 h
    go_enter Tryz.func63, Tryz.ntmps63
    go_wp2_with ((with_reducible refine (HT.out).mono ?_); rintro e w' ⟨rfl, rfl⟩)
    go_ret2
    exact ⟨rfl, rfl⟩
end Go.Proofs.YtdebfnlnpfienaaGreatDoor

/- settle: what is there is made sure. -/
namespace Go.Proofs.YtdebfnlnpfienaaGreatDoor
open Go.RowKit Lift
set_option linter.unusedSimpArgs false
set_option linter.unusedVariables false

/-- A write's zero. -/
def wrZ : Array Value := (.int .i64 0 :: List.replicate 64 (.int .u8 0)).toArray
theorem i_wrZ : (Tryz.prog.info? 82).map (fun i => (i.zero, i.size)) = some (some (.agg wrZ), 65) := by kernel_rfl
theorem wrZ_size : wrZ.size = 65 := by simp [wrZ]
theorem wpList_alloc_wr {ops : Array Oper} {rest : List Oper} {o : Oper} {a : Act} {w : World} {Q : Exit → Act → World → Prop} (hgd : o.guard = none) (ho : o.op = .alloc 82)
    (h : wpList Tryz.prog ops Q rest (a.put o.dst (.pointer (some ⟨w.heap.size, 0, none⟩))) (w.alloc (.cells wrZ 82))) : wpList Tryz.prog ops Q (o :: rest) a w := by
  have hz := (zero_of_info i_wrZ).1
  refine wpList_plain hgd fun K hK => ?_
  unfold Oper.wp
  simp only [execOp, ho, Instr.alloc, Sem.run_bind, hz, Result.andThen_ok]
  exact hK _ _ h
theorem wpList_store_wr {ops : Array Oper} {rest : List Oper} {o : Oper} {a : Act} {w : World} {Q : Exit → Act → World → Prop} (hgd : o.guard = none) (x y : Operand) (ho : o.op = .store 82 x y)
    (hx : a.eval x = .pointer (some ⟨w.heap.size, 0, none⟩)) (d : Wr) (hy : a.eval y = .agg (wrCells d).toArray) (hd : d.2.length = 64)
    (h : wpList Tryz.prog ops Q rest (a.put o.dst undef) (w.alloc (.cells (wrCells d).toArray 82))) : wpList Tryz.prog ops Q (o :: rest) a (w.alloc (.cells wrZ 82)) := by
  refine wpList_plain hgd fun K hK => ?_
  have hs := run_storeAt_new (P := Tryz.prog) w 82 wrZ (wrCells d).toArray (by rw [wr_info d hd]; simp) (by rw [wrZ_size]; simp [wrCells, cs_len, hd]) (all_oneCell_toArray (wr_one d))
  unfold Oper.wp execOp
  simp only [ho, hx, hy, Sem.run_bind, hs, Result.andThen_ok]
  exact hK _ _ h
/-- A whole array is read in a region that reads first. -/
theorem wpStill_load_mid {P : Program} {ops : Array Oper} {rest : List Oper} {op : Oper} {a : Act} {w : World} {Q : Act → Prop} (hgd : op.guard = none) (ty : TypeId) (x : Operand) (ho : op.op = .load ty x)
    (b o : Nat) (hx : a.eval x = .pointer (some ⟨b, o, none⟩)) (cs : List Value) (d : TypeDesc) (hc : w.rangeAt b o cs)
    (hu : P.underlying ty = some d) (hd : d.isRow = true) (hi : (P.info? ty).map (·.size) = some cs.length)
    (h : wpStill P ops w Q rest (a.put op.dst (.agg cs.toArray))) : wpStill P ops w Q (op :: rest) a := by
  refine wpStill_step fun K hK => ?_
  simp only [Region.wanted, hgd, if_true]
  unfold Oper.still execOp
  simp only [ho, hx, Instr.loadAt, Instr.sureAddr, Sem.run_bind, Sem.run_pure, Result.andThen_ok, run_loadVar_mid w b o ty cs d hc hu hd hi]
  exact ⟨rfl, hK _ h⟩
def settL (no : Secs) (lo : List Wr) (su : Secs) : Secs := lo.foldl (fun s x => s.set x.1 (no.getD x.1 [])) su
theorem settL_snoc (no : Secs) (lo : List Wr) (x : Wr) (su : Secs) : settL no (lo ++ [x]) su = (settL no lo su).set x.1 (no.getD x.1 []) := by simp [settL]
theorem kept_sets {X : Nat → Prop} {a b : World} (h : Kept X a b) {g : Nat} {b' : World} (k : Kept (fun j => j = g) b b') (hg : X g) : Kept X a b' := h.trans k (fun _ _ h => h) (fun _ _ e => by subst e; exact hg)
set_option maxHeartbeats 1000000 in
set_option maxRecDepth 100000 in
theorem settle_any {base : Nat} {w : World} {F : Fp} {st : St} (h : Raw base w F st) (hll : st.lo.length ≤ 1000000000) :
    Calls Tryz.prog 37 #[.pointer (some ⟨F.b, 0, none⟩)] w (VoidRaw base F { F with lv := .slice none 0 0 } { st with su := settL st.no st.lo st.su, lo := [] } w) := by
  obtain ⟨c0, c1, c2, c3, c4⟩ := h.cells
  obtain ⟨ao, cap, elv⟩ := h.own3.form
  rw [elv] at c2
  have H := Lib.hid h
  have HLV := Lib.hid elv
  have hn2 := h.n2
  clear h elv
  go_enter Tryz.func37, Tryz.ntmps37
  go_wp2_with fail
  go_loopw [9] (fun v9 wr => ∃ k : Nat, k ≤ st.lo.length ∧ v9 = .int .i64 k ∧ Hid (Raw base wr F { st with su := settL st.no (st.lo.take k) st.su }) ∧ Kept (foot F) w wr) (fun v9 _ => st.lo.length - (intOf v9).toNat)
  case atStart => exact ⟨0, by omega, rfl, Lib.hid (by simpa [settL] using H.out), Kept.refl _ _⟩
  case round =>
    obtain ⟨k, hk, rfl, hR, hK⟩ := hrel
    obtain ⟨d0, d1, d2, d3, d4⟩ := hR.out.cells
    by_cases hkl : k < st.lo.length
    · obtain ⟨x, hx⟩ := some_at hkl
      obtain ⟨g, cap', e2, hg, hrg, hx64⟩ := own_wr hR.out.own3 hx
      obtain ⟨rfl, rfl⟩ : ao = some ⟨g, 0, none⟩ ∧ cap' = cap := by rw [HLV.out] at e2; injection e2 with a b c; exact ⟨a, c.symm⟩
      have hxn : x.1 < st.no.length := hR.out.lat x (List.mem_of_getElem? hx)
      obtain ⟨y, hy⟩ := some_at hxn
      obtain ⟨r1, t1, y64⟩ := own_sec hR.out.own2 hy
      have HI1 := Lib.hid (cs_info y y64)
      have HI2 := Lib.hid (wr_info x hx64)
      obtain ⟨dw, hdw1, hdw2⟩ := u_wr
      have HU1 := Lib.hid hdw1
      have HU2 := Lib.hid hdw2
      have HX := Lib.hid hx
      have HY := Lib.hid hy
      have hkl2 : (k : Int) < (st.lo.length : Int) := by omega
      have HXN := Lib.hid hxn
      have hlim : k ≤ 1000000000 := by omega
      have hxn2 : (x.1 : Int) < (st.no.length : Int) := by omega
      have HRG := Lib.hid hrg
      clear hx hy hdw1 hdw2 hxn hrg e2 hg
      go_wp2_with (first
        | (refine wpList_load_mid rfl 82 _ rfl g (k * 65) rfl (wrCells x) dw HRG.out HU1.out HU2.out HI2.out ?_)
        | (refine wpList_alloc_wr rfl rfl ?_)
        | (refine wpList_store_wr rfl _ _ rfl rfl x rfl hx64 ?_))
      have HA := Lib.hid (hR.out.below ((Below.refl _ wr).alloc (Nat.le_refl _) (.cells (wrCells x).toArray 82)))
      obtain ⟨W2, hW2, HR2, gx, hK2⟩ : ∃ W2, { (wr.alloc (.cells (wrCells x).toArray 82)) with drawn := (wr.alloc (.cells (wrCells x).toArray 82)).drawn + 1 } = W2 ∧ Raw base W2 F { st with su := settL st.no (st.lo.take k) st.su } ∧
          W2.cell? ⟨wr.heap.size, 0, none⟩ = some (.int .i64 (x.1 : Int)) ∧ Kept (foot F) w W2 :=
        ⟨_, rfl, HA.out.below (Below.refl _ _).drew, by show (World.alloc _ _).cell? _ = _; simp [go_sem, wrCells], hK.new.step (Below.refl _ _).drew⟩
      obtain ⟨q0, q1, q2, q3, q4⟩ := HR2.cells
      obtain ⟨gr, gt, _⟩ := own_sec HR2.own2 HY.out
      obtain ⟨z, hz⟩ := some_at (l := settL st.no (st.lo.take k) st.su) (k := x.1) (by have := HR2.sn; have := HXN.out; simp only at *; omega)
      obtain ⟨_, gs, _⟩ := own_sec HR2.own1 hz
      have hS := HR2.setS HXN.out y64
      have HS := Lib.hid hS
      have HK2 := Lib.hid hK2
      have GT := Lib.hid gs
      have GR := Lib.hid gr
      clear hS hK2 gs gr hz HA HR2 r1 t1
      refine wp_region_still_tail 15 (by kernel_rfl) (by kernel_rfl) ?_
      rw [hW2]
      clear hW2
      simp only [List.take_succ_cons, List.take_zero, List.drop_succ_cons, List.drop_zero]
      repeat still_step
      refine wpStill_load_mid rfl 80 _ rfl F.m (x.1 * 64) rfl (Cs y) _ GR.out u_sec rfl HI1.out ?_
      repeat still_step
      refine wpStill_nil ?_
      refine wpList_store_mid rfl 80 _ _ rfl F.s (x.1 * 64) (Cs y).toArray rfl rfl (by simpa [cs_len, y64] using GT.out) (by simpa using HI1.out) (all_oneCell_toArray (cs_one y)) ?_
      go_wp2_with fail
      go_roundw
      case measure => simp [intOf]; omega
      case rel =>
        refine ⟨k + 1, by omega, by go_num, Lib.hid ?_, ?_⟩
        · have e := HS.out.1
          rw [take_at2 HX.out, settL_snoc]
          simpa [List.getD_eq_getElem?_getD, HY.out] using e
        · simpa using kept_sets HK2.out HS.out.2 (.inr (.inl rfl))
    · obtain rfl : k = st.lo.length := by omega
      have f2 := hR.out.free 2
      go_wp2_with fail
      go_end0
      refine ⟨rfl, ?_, hK.set (.inl rfl)⟩
      have e := hR.out.set2 (v := .slice none 0 0) (lo := []) (Own.nil _ _ _ _ _) (by simp) (by simp [Value.ownBlock]) (by simp [Value.ownBlock]) (by simp [Value.ownBlock]) (fun _ => rfl)
      rw [List.take_length] at e
      exact e
end Go.Proofs.YtdebfnlnpfienaaGreatDoor

/- Put. -/
namespace Go.Proofs.YtdebfnlnpfienaaGreatDoor
open Go.RowKit Lift
set_option linter.unusedSimpArgs false
set_option linter.unusedVariables false

def zer : List UInt8 := List.replicate 64 0
def pad (s : ByteArray) : List UInt8 := s.data.toList ++ List.replicate (64 - s.size) 0
theorem pad_len {s : ByteArray} (h : s.size ≤ 64) : (pad s).length = 64 := by simp [pad]; omega
theorem zer_len : zer.length = 64 := by simp [zer]
theorem built_wr (k : Nat) : Tryz.prog.built 82 [(0, .int .i64 (k : Int))] = some (wrCells (k, zer)).toArray := by kernel_rfl
theorem wpList_build_wr {ops : Array Oper} {rest : List Oper} {o : Oper} {a : Act} {w : World} {Q : Exit → Act → World → Prop} (hgd : o.guard = none) (x : Operand) (ho : o.op = .build 82 #[(0, x)]) (k : Nat) (hx : a.eval x = .int .i64 (k : Int))
    (h : wpList Tryz.prog ops Q rest (a.put o.dst (.agg (wrCells (k, zer)).toArray)) w) : wpList Tryz.prog ops Q (o :: rest) a w := by
  have e : Tryz.prog.built 82 (Array.map (fun (x : Nat × Operand) => (x.1, a.eval x.2)) #[(0, x)]).toList = some (wrCells (k, zer)).toArray := by
    simp only [List.map_toArray, List.map_cons, List.map_nil, hx]
    exact built_wr k
  refine wpList_build hgd 82 _ ho (by rw [show Tryz.prog.built _ _ = _ from e]; rfl) ?_
  rw [show Tryz.prog.built 82 _ = _ from e]
  exact h
theorem wpList_copy_wr {ops : Array Oper} {rest : List Oper} {o : Oper} {a : Act} {w : World} {Q : Exit → Act → World → Prop} (hgd : o.guard = none) (d s : Operand) (ho : o.op = .call { callee := .builtin .copy, args := #[d, s], argTypes := #[83, 9] })
    (hd : a.eval d = .slice (some ⟨w.heap.size, 1, none⟩) 64 64) (t : ByteArray) (hs : a.eval s = .string t) (ht : t.size ≤ 64) (k : Nat)
    (h : wpList Tryz.prog ops Q rest (a.put o.dst (goInt t.size)) (w.alloc (.cells (wrCells (k, pad t)).toArray 82))) : wpList Tryz.prog ops Q (o :: rest) a (w.alloc (.cells (wrCells (k, zer)).toArray 82)) := by
  refine wpList_plain hgd fun K hK => ?_
  have hrun := Lib.run_copy_row_string (P := Tryz.prog) (w.alloc (.cells (wrCells (k, zer)).toArray 82)) 83 9 o.type 5 w.heap.size 1 64 64 t _ 82 Tryz.underlying83 (by kernel_rfl) (heap_alloc_last w _) ht (by simp [wrCells, cs_len, zer_len]; omega)
  rw [World.setRow_alloc_new] at hrun
  have e : List.take 1 (wrCells (k, zer)).toArray.toList ++ Lib.byteCells t.data.toList ++ List.drop (1 + t.size) (wrCells (k, zer)).toArray.toList = wrCells (k, pad t) := by
    simp only [List.toList_toArray, wrCells, List.take_succ_cons, List.take_zero, pad, Lib.byteCells, zer]
    rw [show 1 + t.size = t.size + 1 by omega, List.drop_succ_cons, List.map_replicate, List.drop_replicate, List.map_append, List.map_replicate]
    rfl
  rw [e] at hrun
  unfold Oper.wp
  simp [execOp, ho, resolve, invoke, builtin, hd, hs, hrun, Result.andThen]
  exact hK _ _ h
theorem fold_sets : ∀ (l : List Value) (k : Nat) (cs : Array Value), k + l.length ≤ cs.size →
    ((l.zipIdx k).foldl (fun (cs : Array Value) (x : Value × Nat) => cs.setIfInBounds (0 + x.2) x.1) cs).toList = cs.toList.take k ++ l ++ cs.toList.drop (k + l.length)
  | [], k, cs, _ => by simp
  | v :: r, k, cs, h => by
    simp only [List.length_cons] at h
    rw [List.zipIdx_cons, List.foldl_cons, fold_sets r (k + 1) _ (by simp; omega)]
    simp only [Nat.zero_add, Array.toList_setIfInBounds, List.length_cons]
    rw [List.take_succ_eq_append_getElem (by simp; omega), List.take_set_of_le (by omega), List.drop_set_of_lt (by omega)]
    simp [show k + 1 + r.length = k + (r.length + 1) by omega]
theorem fillOne (z c : Array Value) (h : z.size = c.size) (n : Nat) (hn : n = c.size) : Instr.fill (fun i => some (i * n, n)) z [(0, .agg c)] = some c := by
  subst hn
  have e := fold_sets c.toList 0 z (by simp [h])
  simp only [Instr.fill, Value.cells, Nat.zero_mul, Nat.zero_add, ne_eq, not_true_eq_false, decide_false, Bool.false_or, decide_eq_true_eq]
  rw [if_neg (by simp [h])]
  congr 1
  apply Array.toList_inj.1
  simp only [List.take_zero, List.nil_append, Nat.zero_add] at e
  rw [List.drop_of_length_le (by simp [h])] at e
  rw [← Array.foldl_toList]
  simpa using e
theorem range_mod (z : Array Value) : (Array.range (1 * z.size)).map (z[· % z.size]!) = z := by
  apply Array.ext
  · simp
  · intro i h1 h2
    simp at h1
    simp [Nat.mod_eq_of_lt h1, h2]
theorem wp_bs_wr {o : Oper} {a : Act} {w : World} {K : Act → World → Prop} {Q : Exit → Act → World → Prop} (x : Operand) (ho : o.op = .buildSlice 55 1 #[(0, x)]) (d : Wr) (hd : d.2.length = 64) (hx : a.eval x = .agg (wrCells d).toArray)
    (h : K (a.put o.dst (.slice (some ⟨w.heap.size, 0, none⟩) 1 1)) (w.alloc (.cells (wrCells d).toArray 82))) : o.wp Tryz.prog a w K Q := by
  have hi := i_wrZ
  have hc : (wrCells d).toArray.size = 65 := by simp [wrCells, cs_len, hd]
  cases hq : Tryz.prog.info? 82 with
  | none => rw [hq] at hi; simp at hi
  | some i =>
    rw [hq] at hi
    simp at hi
    refine wp_buildSlice 55 82 1 #[(0, x)] ho (wrCells d).toArray i (.agg wrZ) Tryz.underlying55 hq hi.1 (by rw [hi.2]; omega) (by rw [hi.2]; omega) ?_ h
    rw [hi.2]
    have e := range_mod wrZ
    rw [wrZ_size] at e
    have hp : (Array.map (fun (p : Nat × Operand) => (p.1, a.eval p.2)) #[(0, x)]).toList = [(0, .agg (wrCells d).toArray)] := by simp [hx]
    rw [show Array.toList _ = _ from hp]
    show Instr.fill _ ((Array.range (1 * 65)).map fun x => wrZ[x % wrZ.size]!) _ = _
    rw [wrZ_size, e]
    exact fillOne wrZ _ (by rw [wrZ_size, hc]) 65 hc.symm
theorem wr_row : (Tryz.prog.info? 82).map (fun i => (i.zero, i.size, i.bytes)) = some (some (.agg wrZ), 65, 72) := by kernel_rfl

def putE (st : St) (x : Int) (s : ByteArray) : Int := if thereE st x = 0 then (if 64 < s.size then 8 else burnE st) else thereE st x
def putS (st : St) (x : Int) (s : ByteArray) : St := if thereE st x = 0 then (if 64 < s.size then st else if burnE st = 0 then { burnS st with no := (burnS st).no.set x.toNat (pad s), lo := (burnS st).lo ++ [(x.toNat, pad s)] } else burnS st) else st
theorem burnS_same {st : St} : (burnS st).su = st.su ∧ (burnS st).no = st.no ∧ (burnS st).lo = st.lo := by
  unfold burnS; split
  · exact ⟨rfl, rfl, rfl⟩
  · split <;> exact ⟨rfl, rfl, rfl⟩
theorem heap_of_kept {X : Nat → Prop} {w w' : World} (h : Kept X w w') {g : Nat} (hx : ¬ X g) {o : Obj} (hg : w.heap[g]? = some o) : w'.heap[g]? = some o :=
  (h.block g (Array.getElem?_eq_some_iff.1 hg).1 hx).trans hg
theorem row_at {w : World} {g : Nat} {C : Array Value} {t : TypeId} {fr : Nat × Nat} (hg : w.heap[g]? = some (.cells C t fr)) (o : Nat) (cs : List Value) (h : C.toList.drop o = cs) : w.rangeAt g o cs := by
  intro j v hv
  rw [cell_of_row w g (o + j) C t fr hg]
  subst h
  rw [List.getElem?_drop] at hv
  simpa using hv
/-- What a step of a plate leaves. -/
def PlPost (base : Nat) (F : Fp) (st : St) (v : Value) (w : World) (e : Ending) (w' : World) : Prop :=
  ∃ F', e = .returned v ∧ Raw base w' F' st ∧ F'.b = F.b ∧ (∀ k, foot F' k → foot F k ∨ w.heap.size ≤ k) ∧ Kept (foot F) w w'
theorem PlPost.same {base : Nat} {F : Fp} {st : St} {v : Value} {w w' : World} {e : Ending} (he : e = .returned v) (h : Raw base w' F st) (hk : Kept (foot F) w w') : PlPost base F st v w e w' :=
  ⟨F, he, h, rfl, fun k h => .inl h, hk⟩
theorem put_end {base : Nat} {w W4 w5 : World} {F : Fp} {st : St} {v5 : Value} {no : Secs} (HR : Raw base W4 F { st with no := no }) (hK : Kept (foot F) w W4) (x : Wr) (hx : x.1 < st.no.length) (hn : no.length = st.no.length) (hO : Own rWr (fun _ => True) w5 base 82 v5 (st.lo ++ [x]))
    (hK5 : Kept (fun j => some j = F.lv.ownBlock) W4 w5) (hw5 : v5.ownBlock = F.lv.ownBlock ∨ ∃ g, v5.ownBlock = some g ∧ W4.heap.size < g) :
    PlPost base F { st with no := no, lo := st.lo ++ [x] } (.int .i64 0) w (.returned (.int .i64 0)) (w5.setCell ⟨F.b, 2, none⟩ v5) := by
  have h5 : ∀ j, v5.ownBlock = some j → F.lv.ownBlock = some j ∨ W4.heap.size < j := by
    intro j hj
    rcases hw5 with e | ⟨g, e, hg⟩
    · exact .inl (e ▸ hj)
    · rw [e] at hj; injection hj with hj; exact .inr (hj ▸ hg)
  have hlt := HR.lt
  have ne : ∀ j, j < W4.heap.size → F.lv.ownBlock ≠ some j → v5.ownBlock ≠ some j := by
    intro j hj hn e
    rcases h5 j e with h | h
    · exact hn h
    · omega
  -- with a row of its own behind the append
  have hx1 : ¬ some F.b = F.lv.ownBlock := fun e => HR.a4 e.symm
  have hR5 : Raw base (w5.setCell ⟨F.b, 2, none⟩ v5) { F with lv := v5 } { st with no := no, lo := st.lo ++ [x] } := by
    have hk2 := Kept.setCell (X := fun k => k = F.b) w5 (p := ⟨F.b, 2, none⟩) rfl v5
    have hb5 : w5.heap[F.b]? = some (.cells (plCells F no.length { st with no := no }) 57 (0, 0)) := (hK5.block F.b hlt.1 hx1).trans HR.blk
    exact { HR with
      lat := by
        intro y hy
        rcases List.mem_append.1 hy with hy | hy
        · exact HR.lat y hy
        · simp only [List.mem_singleton] at hy; rw [hy]; show x.1 < no.length; omega
      blk := by rw [heap_setCell_same w5 _ 2 _ _ _ hb5, plset2]; rfl
      own1 := (HR.own1.flat sec_flat hK5 (fun k e => by injection e with e; subst e; exact fun e => HR.a5 e.symm) : Own rSec (fun _ => True) _ _ _ _ _).flat sec_flat hk2 (fun k e => by injection e with e; subst e; exact HR.a1)
      own2 := (HR.own2.flat sec_flat hK5 (fun k e => by injection e with e; subst e; exact fun e => HR.a6 e.symm) : Own rSec (fun _ => True) _ _ _ _ _).flat sec_flat hk2 (fun k e => by injection e with e; subst e; exact HR.a2)
      own3 := hO.flat wr_flat hk2 (fun k e hh => by subst hh; exact ne _ hlt.1 HR.a4 e)
      a4 := ne _ hlt.1 HR.a4
      a5 := ne _ hlt.2.1 HR.a5
      a6 := ne _ hlt.2.2.1 HR.a6
      nil := by simp }
  refine ⟨_, rfl, hR5, rfl, ?_, ?_⟩
  · rintro j (rfl | rfl | rfl | hj)
    · exact .inl (.inl rfl)
    · exact .inl (.inr (.inl rfl))
    · exact .inl (.inr (.inr (.inl rfl)))
    · rcases h5 j hj.symm with h | h
      · exact .inl (.inr (.inr (.inr h.symm)))
      · exact .inr (by have := hK.size; omega)
  · exact (hK.trans hK5 (Z := foot F) (fun _ _ h => h) (fun _ _ e => .inr (.inr (.inr e)))).set (.inl rfl)
set_option maxHeartbeats 1000000 in
set_option maxRecDepth 100000 in
theorem put_any {base : Nat} {w : World} {F : Fp} {st : St} (h : Raw base w F st) (x : Int) (s : ByteArray) (hs : s.size ≤ maxTx) (hll : st.lo.length ≤ 1000000000) :
    Calls Tryz.prog 42 #[.pointer (some ⟨F.b, 0, none⟩), .int .i64 x, .string s] w (PlPost base F (putS st x s) (.int .i64 (putE st x s)) w) := by
  have HT := Lib.hid (there_any h x)
  have HB := Lib.hid (burn_any h)
  unfold maxTx at hs
  by_cases h0 : thereE st x = 0
  · by_cases hl : 64 < s.size
    · have e1 : putE st x s = 8 := by simp [putE, h0, hl]
      have e2 : putS st x s = st := by simp [putS, h0, hl]
      have hd : decide ((64 : Int) < (s.size : Int)) = true := by simp; omega
      rw [e1, e2]
      rw [h0] at HT
      have H := Lib.hid h
      clear e1 e2 h0 h
      go_enter Tryz.func42, Tryz.ntmps42
      go_wp2_with ((with_reducible refine (HT.out).mono ?_); rintro e w' ⟨rfl, rfl⟩)
      go_ret
      exact PlPost.same rfl H.out (Kept.refl _ _)
    · have hd : decide ((64 : Int) < (s.size : Int)) = false := by simp; omega
      by_cases hb : burnE st = 0
      · obtain ⟨k, rfl, hk, hoff⟩ := thereE_zero h0
        have e1 : putE st k s = 0 := by simp [putE, h0, hl, hb]
        have e2 : putS st k s = { burnS st with no := (burnS st).no.set k (pad s), lo := (burnS st).lo ++ [(k, pad s)] } := by simp [putS, h0, hl, hb]
        rw [e1, e2]
        rw [h0] at HT
        rw [hb] at HB
        have hk1 : k < (burnS st).no.length := by rw [burnS_same.2.1]; exact hk
        have hll1 : (burnS st).lo.length ≤ 1000000000 := by rw [burnS_same.2.2]; exact hll
        generalize burnS st = st1 at *
        have hs64 : s.size ≤ 64 := by omega
        have hn2 := h.n2
        have hk3 : k ≤ 8192 := by omega
        clear e1 e2 h0 hb h hoff hn2 hk hll
        go_enter Tryz.func42, Tryz.ntmps42
        go_wp2_with (first
          | ((with_reducible refine (HT.out).mono ?_); rintro e w' ⟨rfl, rfl⟩)
          | ((with_reducible refine (HB.out).mono ?_); rintro e w1 ⟨rfl, hR, hK⟩)
          | (refine wpList_build_wr rfl _ rfl k rfl ?_)
          | (refine wpList_alloc_wr rfl rfl ?_)
          | (refine wpList_store_wr rfl _ _ rfl rfl (k, zer) rfl zer_len ?_)
          | (refine wpList_copy_wr rfl _ _ rfl rfl s rfl hs64 k ?_))
        have hp64 := pad_len hs64
        obtain ⟨W2, hW2, HR2, hg2, hsz, hK2⟩ : ∃ W2, { (w1.alloc (.cells (wrCells (k, pad s)).toArray 82)) with drawn := (w1.alloc (.cells (wrCells (k, pad s)).toArray 82)).drawn + 1 } = W2 ∧ Raw base W2 F st1 ∧
            W2.heap[w1.heap.size]? = some (.cells (wrCells (k, pad s)).toArray 82 (0, 0)) ∧ W2.heap.size = w1.heap.size + 1 ∧ Kept (foot F) w W2 :=
          ⟨_, rfl, hR.below ((Below.refl _ w1).alloc (Nat.le_refl _) _).drew, heap_alloc_last w1 _, by simp, (foot_b hK).new.step (Below.refl _ _).drew⟩
        obtain ⟨q0, q1, q2, q3, q4⟩ := HR2.cells
        obtain ⟨z, hz⟩ := some_at (l := st1.no) (k := k) hk1
        obtain ⟨_, gs, _⟩ := own_sec HR2.own2 hz
        have hgm : w1.heap.size ≠ F.m := by have := hR.lt.2.2.1; omega
        have hgb : w1.heap.size ≠ F.b := by have := hR.lt.1; omega
        have hgl : ∀ j, F.lv.ownBlock = some j → j < w1.heap.size := hR.lt.2.2.2
        have hS := HR2.setN hk1 hp64
        have ho2 := heap_of_kept hS.2 (show ¬ w1.heap.size = F.m from hgm) hg2
        have gr2 := (row_at hg2 1 (Cs (pad s)) (by rfl))
        have HS := Lib.hid hS
        have HK2 := Lib.hid hK2
        have GT := Lib.hid gs
        have GR2 := Lib.hid gr2
        have HP := Lib.hid hp64
        have HG := Lib.hid ho2
        have hk4 : (k : Int) < (st1.no.length : Int) := by omega
        have HSZ := Lib.hid hsz
        clear hS hK2 gs hz HR2 hg2 gr2 hp64 hR ho2 hsz
        refine wp_region_still_tail 8 (by kernel_rfl) (by kernel_rfl) ?_
        rw [hW2]
        clear hW2
        simp only [List.take_succ_cons, List.take_zero, List.drop_succ_cons, List.drop_zero]
        repeat still_step
        refine wpStill_load_mid rfl 80 _ rfl w1.heap.size 1 rfl (Cs (pad s)) _ GR2.out u_sec rfl (cs_info _ HP.out) ?_
        repeat still_step
        refine wpStill_nil ?_
        refine wpList_store_mid rfl 80 _ _ rfl F.m (k * 64) (Cs (pad s)).toArray rfl rfl (by simpa [cs_len, HP.out] using GT.out) (by simpa using cs_info _ HP.out) (all_oneCell_toArray (cs_one _)) ?_
        go_wp2_with fail
        clear q0 q1 q2 q3 q4
        try simp only [List.toList_toArray]
        obtain ⟨W3, hW3⟩ : ∃ W3, W2.setCells F.m (k * 64) (Cs (pad s)) = W3 := ⟨_, rfl⟩
        have HS3 := HS.out
        have HG3 := HG.out
        rw [hW3] at HS3 HG3 ⊢
        clear HS HG hW3 GT GR2
        have hw3 := HK2.out.trans HS3.2 (Z := foot F) (fun _ _ h => h) (fun _ _ e => .inr (.inr (.inl e)))
        have HR3 := HS3.1
        obtain ⟨W4, hW4, HR4, HG4, hK4⟩ : ∃ W4, { W3 with drawn := W3.drawn + 1 } = W4 ∧ Raw base W4 F { st1 with no := st1.no.set k (pad s) } ∧
            W4.heap[w1.heap.size]? = some (.cells (wrCells (k, pad s)).toArray 82 (0, 0)) ∧ Kept (foot F) w W4 :=
          ⟨_, rfl, HR3.below (Below.refl _ _).drew, HG3, hw3.step (Below.refl _ _).drew⟩
        clear HS3 HG3 hw3 HR3
        have q2 := HR4.cells.2.2.1
        have f2 := HR4.free 2
        have q2a : (W4.alloc (.cells (wrCells (k, pad s)).toArray 82)).cell? ⟨F.b, 2, none⟩ = some F.lv := (((Below.refl _ W4).alloc (Nat.le_refl _) _).cell (p := ⟨F.b, 2, none⟩) HR4.lt.1).trans q2
        have gr4 := Lib.hid (row_at HG4 0 (wrCells (k, pad s)) rfl)
        obtain ⟨dw, hdw1, hdw2⟩ := u_wr
        have HU1 := Lib.hid hdw1
        have HU2 := Lib.hid hdw2
        have HR := Lib.hid HR4
        have HK4 := Lib.hid hK4
        have hb4 := HR4.own3
        obtain ⟨i0, hi, hz0, hz1, hz2⟩ := info_parts wr_row
        have HI := Lib.hid hi
        have HZ0 := Lib.hid hz0
        have HZ1 := Lib.hid hz1
        have HZ2 := Lib.hid hz2
        have hbs : base ≤ W4.heap.size := by have := HR4.bb; have := HR4.lt.1; omega
        clear hdw1 hdw2 HR4 hK4 HG4 hi hz0 hz1 hz2
        refine wp_region_any (by kernel_rfl) ?_
        rw [hW4]
        clear hW4
        refine' wpAny_take (i := 0) (v := _) rfl (by kernel_rfl) (by kernel_rfl) (by kernel_rfl) (fun _ _ _ h => h) (Or.inl ⟨by rfl, ?hy0⟩) ?rest0
        case hy0 => (intro w; go_simp; try with_reducible rfl)
        (try simp only [Act.put, List.setIfInBounds_toArray, List.set_cons_zero, List.set_cons_succ])
        refine' wpAny_take (i := 1) (v := _) rfl (by kernel_rfl) (by kernel_rfl) (by kernel_rfl) (fun _ _ _ h => h) (Or.inl ⟨by rfl, ?hy1⟩) ?rest1
        case hy1 => (intro w; go_simp; try with_reducible rfl)
        (try simp only [Act.put, List.setIfInBounds_toArray, List.set_cons_zero, List.set_cons_succ])
        refine' wpAny_take (i := 2) (v := _) rfl (by kernel_rfl) (by kernel_rfl) (by kernel_rfl) (fun _ _ _ h => h) (Or.inl ⟨by rfl, ?hy2⟩) ?rest2
        case hy2 => (intro w; go_simp; try with_reducible rfl)
        (try simp only [Act.put, List.setIfInBounds_toArray, List.set_cons_zero, List.set_cons_succ])
        refine' wpAny_take (i := 3) (v := _) rfl (by kernel_rfl) (by kernel_rfl) (by kernel_rfl) (fun _ _ _ h => h) (Or.inl ⟨by rfl, ?hy3⟩) ?rest3
        case hy3 => (intro w; go_simp; try with_reducible rfl)
        (try simp only [Act.put, List.setIfInBounds_toArray, List.set_cons_zero, List.set_cons_succ])
        refine wpAny_ready (rs := [4, 5]) (by kernel_rfl) (by simp) ?_
        refine AllReady.cons rfl (fun K hK => ?_) (AllReady.cons rfl (fun K hK => ?_) AllReady.nil)
        · (go_simp; refine hK _ _ ?_; clear hK K; (try simp only [Act.put, List.setIfInBounds_toArray, List.set_cons_zero, List.set_cons_succ]))
          refine wpAny_ready (rs := [5]) (by kernel_rfl) (by simp) ?_
          refine AllReady.cons rfl (fun K hK => ?_) AllReady.nil
          (rw [if_pos (by rfl)]; refine wp_load_mid 82 _ rfl w1.heap.size 0 rfl (wrCells (k, pad s)) dw gr4.out HU1.out HU2.out (wr_info _ HP.out) ?_; refine hK _ _ ?_; clear hK K; (try simp only [Act.put, List.setIfInBounds_toArray, List.set_cons_zero, List.set_cons_succ]))
          refine wpAny_ready (rs := [6]) (by kernel_rfl) (by simp) ?_
          refine AllReady.cons rfl (fun K hK => ?_) AllReady.nil
          (rw [if_pos (by rfl)]; refine wp_bs_wr _ rfl (k, pad s) HP.out rfl ?_; refine hK _ _ ?_; clear hK K; (try simp only [Act.put, List.setIfInBounds_toArray, List.set_cons_zero, List.set_cons_succ]))
          refine wpAny_ready (rs := [7]) (by kernel_rfl) (by simp) ?_
          refine AllReady.cons rfl (fun K hK => ?_) AllReady.nil
          (refine step_push rWr rfl _ _ 55 rfl base 82 i0 _ 72 Tryz.underlying55 HI.out HZ0.out HZ1.out HZ2.out (by rfl) (by decide) (fun _ => True) F.lv st1.lo rfl hb4 (wrCells (k, pad s)) (k, pad s) _ rfl rfl ⟨rfl, HP.out⟩ (wr_one _) (by unfold maxLen; omega) (by omega) hbs ?_; intro v5 w5 hO5 hK5 hw5; obtain ⟨ao5, cap5, rfl⟩ := hO5.form; rw [show (st1.lo ++ [(k, pad s)]).length = st1.lo.length + 1 by simp] at hO5 hw5 ⊢; refine hK _ _ ?_; clear hK K; (try simp only [Act.put, List.setIfInBounds_toArray, List.set_cons_zero, List.set_cons_succ]))
          have hc5 : w5.cell? ⟨F.b, 2, none⟩ = some F.lv := (hK5.cell (p := ⟨_, _, none⟩) HR.out.lt.1 (fun e => HR.out.a4 e.symm)).trans q2
          have hf5 : w5.frozen? ⟨F.b, 2, none⟩ = false := (hK5.frozen (p := ⟨_, _, none⟩) HR.out.lt.1 (fun e => HR.out.a4 e.symm)).trans f2
          refine wpAny_ready (rs := [8]) (by kernel_rfl) (by simp) ?_
          refine AllReady.cons rfl (fun K hK => ?_) AllReady.nil
          (go_simp; refine hK _ _ ?_; clear hK K; (try simp only [Act.put, List.setIfInBounds_toArray, List.set_cons_zero, List.set_cons_succ]))
          refine wpAny_ready (rs := [9]) (by kernel_rfl) (by simp) ?_
          refine AllReady.cons rfl (fun K hK => ?_) AllReady.nil
          (go_simp; refine hK _ _ ?_; clear hK K; (try simp only [Act.put, List.setIfInBounds_toArray, List.set_cons_zero, List.set_cons_succ]))
          refine wpAny_ready (rs := [10]) (by kernel_rfl) (by simp) ?_
          refine AllReady.cons rfl (fun K hK => ?_) AllReady.nil
          (go_simp; refine hK _ _ ?_; clear hK K; (try simp only [Act.put, List.setIfInBounds_toArray, List.set_cons_zero, List.set_cons_succ]))
          refine wpAny_done (by kernel_rfl) ?_ _
          go_wp2_with fail
          go_ret
          exact put_end HR.out HK4.out (k, pad s) hk1 (by simp) hO5 hK5 hw5
        · (rw [if_pos (by rfl)]; refine wp_load_mid 82 _ rfl w1.heap.size 0 rfl (wrCells (k, pad s)) dw gr4.out HU1.out HU2.out (wr_info _ HP.out) ?_; refine hK _ _ ?_; clear hK K; (try simp only [Act.put, List.setIfInBounds_toArray, List.set_cons_zero, List.set_cons_succ]))
          refine wpAny_ready (rs := [4, 6]) (by kernel_rfl) (by simp) ?_
          refine AllReady.cons rfl (fun K hK => ?_) (AllReady.cons rfl (fun K hK => ?_) AllReady.nil)
          · (go_simp; refine hK _ _ ?_; clear hK K; (try simp only [Act.put, List.setIfInBounds_toArray, List.set_cons_zero, List.set_cons_succ]))
            refine wpAny_ready (rs := [6]) (by kernel_rfl) (by simp) ?_
            refine AllReady.cons rfl (fun K hK => ?_) AllReady.nil
            (rw [if_pos (by rfl)]; refine wp_bs_wr _ rfl (k, pad s) HP.out rfl ?_; refine hK _ _ ?_; clear hK K; (try simp only [Act.put, List.setIfInBounds_toArray, List.set_cons_zero, List.set_cons_succ]))
            refine wpAny_ready (rs := [7]) (by kernel_rfl) (by simp) ?_
            refine AllReady.cons rfl (fun K hK => ?_) AllReady.nil
            (refine step_push rWr rfl _ _ 55 rfl base 82 i0 _ 72 Tryz.underlying55 HI.out HZ0.out HZ1.out HZ2.out (by rfl) (by decide) (fun _ => True) F.lv st1.lo rfl hb4 (wrCells (k, pad s)) (k, pad s) _ rfl rfl ⟨rfl, HP.out⟩ (wr_one _) (by unfold maxLen; omega) (by omega) hbs ?_; intro v5 w5 hO5 hK5 hw5; obtain ⟨ao5, cap5, rfl⟩ := hO5.form; rw [show (st1.lo ++ [(k, pad s)]).length = st1.lo.length + 1 by simp] at hO5 hw5 ⊢; refine hK _ _ ?_; clear hK K; (try simp only [Act.put, List.setIfInBounds_toArray, List.set_cons_zero, List.set_cons_succ]))
            have hc5 : w5.cell? ⟨F.b, 2, none⟩ = some F.lv := (hK5.cell (p := ⟨_, _, none⟩) HR.out.lt.1 (fun e => HR.out.a4 e.symm)).trans q2
            have hf5 : w5.frozen? ⟨F.b, 2, none⟩ = false := (hK5.frozen (p := ⟨_, _, none⟩) HR.out.lt.1 (fun e => HR.out.a4 e.symm)).trans f2
            refine wpAny_ready (rs := [8]) (by kernel_rfl) (by simp) ?_
            refine AllReady.cons rfl (fun K hK => ?_) AllReady.nil
            (go_simp; refine hK _ _ ?_; clear hK K; (try simp only [Act.put, List.setIfInBounds_toArray, List.set_cons_zero, List.set_cons_succ]))
            refine wpAny_ready (rs := [9]) (by kernel_rfl) (by simp) ?_
            refine AllReady.cons rfl (fun K hK => ?_) AllReady.nil
            (go_simp; refine hK _ _ ?_; clear hK K; (try simp only [Act.put, List.setIfInBounds_toArray, List.set_cons_zero, List.set_cons_succ]))
            refine wpAny_ready (rs := [10]) (by kernel_rfl) (by simp) ?_
            refine AllReady.cons rfl (fun K hK => ?_) AllReady.nil
            (go_simp; refine hK _ _ ?_; clear hK K; (try simp only [Act.put, List.setIfInBounds_toArray, List.set_cons_zero, List.set_cons_succ]))
            refine wpAny_done (by kernel_rfl) ?_ _
            go_wp2_with fail
            go_ret
            exact put_end HR.out HK4.out (k, pad s) hk1 (by simp) hO5 hK5 hw5
          · (rw [if_pos (by rfl)]; refine wp_bs_wr _ rfl (k, pad s) HP.out rfl ?_; refine hK _ _ ?_; clear hK K; (try simp only [Act.put, List.setIfInBounds_toArray, List.set_cons_zero, List.set_cons_succ]))
            refine wpAny_ready (rs := [4]) (by kernel_rfl) (by simp) ?_
            refine AllReady.cons rfl (fun K hK => ?_) AllReady.nil
            (go_simp; refine hK _ _ ?_; clear hK K; (try simp only [Act.put, List.setIfInBounds_toArray, List.set_cons_zero, List.set_cons_succ]))
            refine wpAny_ready (rs := [7]) (by kernel_rfl) (by simp) ?_
            refine AllReady.cons rfl (fun K hK => ?_) AllReady.nil
            (refine step_push rWr rfl _ _ 55 rfl base 82 i0 _ 72 Tryz.underlying55 HI.out HZ0.out HZ1.out HZ2.out (by rfl) (by decide) (fun _ => True) F.lv st1.lo rfl hb4 (wrCells (k, pad s)) (k, pad s) _ rfl rfl ⟨rfl, HP.out⟩ (wr_one _) (by unfold maxLen; omega) (by omega) hbs ?_; intro v5 w5 hO5 hK5 hw5; obtain ⟨ao5, cap5, rfl⟩ := hO5.form; rw [show (st1.lo ++ [(k, pad s)]).length = st1.lo.length + 1 by simp] at hO5 hw5 ⊢; refine hK _ _ ?_; clear hK K; (try simp only [Act.put, List.setIfInBounds_toArray, List.set_cons_zero, List.set_cons_succ]))
            have hc5 : w5.cell? ⟨F.b, 2, none⟩ = some F.lv := (hK5.cell (p := ⟨_, _, none⟩) HR.out.lt.1 (fun e => HR.out.a4 e.symm)).trans q2
            have hf5 : w5.frozen? ⟨F.b, 2, none⟩ = false := (hK5.frozen (p := ⟨_, _, none⟩) HR.out.lt.1 (fun e => HR.out.a4 e.symm)).trans f2
            refine wpAny_ready (rs := [8]) (by kernel_rfl) (by simp) ?_
            refine AllReady.cons rfl (fun K hK => ?_) AllReady.nil
            (go_simp; refine hK _ _ ?_; clear hK K; (try simp only [Act.put, List.setIfInBounds_toArray, List.set_cons_zero, List.set_cons_succ]))
            refine wpAny_ready (rs := [9]) (by kernel_rfl) (by simp) ?_
            refine AllReady.cons rfl (fun K hK => ?_) AllReady.nil
            (go_simp; refine hK _ _ ?_; clear hK K; (try simp only [Act.put, List.setIfInBounds_toArray, List.set_cons_zero, List.set_cons_succ]))
            refine wpAny_ready (rs := [10]) (by kernel_rfl) (by simp) ?_
            refine AllReady.cons rfl (fun K hK => ?_) AllReady.nil
            (go_simp; refine hK _ _ ?_; clear hK K; (try simp only [Act.put, List.setIfInBounds_toArray, List.set_cons_zero, List.set_cons_succ]))
            refine wpAny_done (by kernel_rfl) ?_ _
            go_wp2_with fail
            go_ret
            exact put_end HR.out HK4.out (k, pad s) hk1 (by simp) hO5 hK5 hw5
      · have e1 : putE st x s = burnE st := by simp [putE, h0, hl]
        have e2 : putS st x s = burnS st := by simp [putS, h0, hl, hb]
        rw [e1, e2]
        rw [h0] at HT
        have hne : (burnE st == 0) = false := by simpa using hb
        have hne2 : (burnE st != 0) = true := by simpa using hb
        generalize burnE st = y at *
        clear e1 e2 h0 hb h
        go_enter Tryz.func42, Tryz.ntmps42
        go_wp2_with (first
          | ((with_reducible refine (HT.out).mono ?_); rintro e w' ⟨rfl, rfl⟩)
          | ((with_reducible refine (HB.out).mono ?_); rintro e w' ⟨rfl, hR, hK⟩))
        go_ret
        exact PlPost.same rfl hR (foot_b hK)
  · have e1 : putE st x s = thereE st x := by simp [putE, h0]
    have e2 : putS st x s = st := by simp [putS, h0]
    rw [e1, e2]
    have hne : (thereE st x == 0) = false := by simpa using h0
    have hne2 : (thereE st x != 0) = true := by simpa using h0
    generalize thereE st x = y at *
    have H := Lib.hid h
    clear e1 e2 h0 h
    go_enter Tryz.func42, Tryz.ntmps42
    go_wp2_with ((with_reducible refine (HT.out).mono ?_); rintro e w' ⟨rfl, rfl⟩)
    go_ret
    exact PlPost.same rfl H.out (Kept.refl _ _)
end Go.Proofs.YtdebfnlnpfienaaGreatDoor

/- Sync, Crash. -/
namespace Go.Proofs.YtdebfnlnpfienaaGreatDoor
open Go.RowKit Lift
set_option linter.unusedSimpArgs false
set_option linter.unusedVariables false

theorem setCell_self {w : World} {b o : Nat} {v : Value} (h : w.cell? ⟨b, o, none⟩ = some v) : w.setCell ⟨b, o, none⟩ v = w := by
  have e : w.heap.modify b (fun
      | .cells c elem frozen => .cells (if (⟨b, o, none⟩ : Addr).spot.isSome then c else c.setIfInBounds o v) elem frozen
      | o => o) = w.heap := by
    apply Array.ext_getElem?
    intro i
    rw [Array.getElem?_modify]
    by_cases hi : b = i
    · subst hi
      rw [if_pos rfl]
      cases hq : w.heap[b]? with
      | none => rfl
      | some ob =>
        simp only [World.cell?, hq] at h
        cases ob with
        | cells c t fr =>
          simp only [Option.map_some, Option.some.injEq]
          have hc : c[o]? = some v := by simpa using h
          have : c.setIfInBounds o v = c := by
            apply Array.ext_getElem?
            intro j
            rw [Array.getElem?_setIfInBounds]
            split
            · rename_i hj; subst hj; rw [hc]; simp [(Array.getElem?_eq_some_iff.1 hc).1]
            · rfl
          simp [this]
        | _ => rfl
    · rw [if_neg hi]
  have e2 : ∀ H, H = w.heap → ({ w with heap := H } : World) = w := by rintro _ rfl; rfl
  exact e2 _ e
theorem setCells_self : ∀ (vs : List Value) {w : World} {b o : Nat}, w.rangeAt b o vs → w.setCells b o vs = w
  | [], w, b, o, _ => rfl
  | v :: r, w, b, o, h => by
    have h0 : w.cell? ⟨b, o, none⟩ = some v := h 0 v rfl
    rw [World.setCells, setCell_self h0]
    exact setCells_self r (fun j u hu => by have := h (j + 1) u (by simpa using hu); rwa [show o + (j + 1) = o + 1 + j by omega] at this)
theorem setCells_app (b : Nat) : ∀ (xs ys : List Value) (o : Nat) (w : World), w.setCells b o (xs ++ ys) = (w.setCells b o xs).setCells b (o + xs.length) ys
  | [], ys, o, w => rfl
  | v :: r, ys, o, w => by
    simp only [List.cons_append, World.setCells, List.length_cons]
    rw [setCells_app b r ys (o + 1), show o + 1 + r.length = o + (r.length + 1) by omega]
/-- A part of a range is stored: as if the whole range were. -/
theorem setCells_part {w : World} {b o f : Nat} {old news : List Value} (h : w.rangeAt b o old) (hf : f + news.length ≤ old.length) :
    w.setCells b (o + f) news = w.setCells b o (old.take f ++ news ++ old.drop (f + news.length)) := by
  have hl : (old.take f).length = f := by simp; omega
  have h1 : w.rangeAt b o (old.take f) := fun j v hv => h j v (by
    have hj := (List.getElem?_eq_some_iff.1 hv).1
    rw [hl] at hj
    rwa [List.getElem?_take_of_lt hj] at hv)
  have h2 : w.rangeAt b (o + (f + news.length)) (old.drop (f + news.length)) := fun j v hv => by
    rw [List.getElem?_drop] at hv
    have := h _ v hv
    rwa [show o + (f + news.length + j) = o + (f + news.length) + j by omega] at this
  rw [setCells_app, setCells_app, setCells_self _ h1, hl]
  rw [show o + (old.take f ++ news).length = o + (f + news.length) by rw [List.length_append, hl]]
  refine (setCells_self _ ?_).symm
  exact World.rangeAt_setCells_apart h2 b (o + f) news (.inr (.inr (by omega)))

def syncE (st : St) : Int := if st.off then 12 else burnE st
def syncS (st : St) : St := if st.off then st else if burnE st = 0 then { burnS st with su := settL st.no st.lo st.su, lo := [] } else burnS st
set_option maxHeartbeats 1000000 in
set_option maxRecDepth 100000 in
theorem sync_any {base : Nat} {w : World} {F : Fp} {st : St} (h : Raw base w F st) (hll : st.lo.length ≤ 1000000000) :
    Calls Tryz.prog 43 #[.pointer (some ⟨F.b, 0, none⟩)] w (PlPost base F (syncS st) (.int .i64 (syncE st)) w) := by
  have c4 := h.cells.2.2.2.2
  have HB := Lib.hid (burn_any h)
  have H := Lib.hid h
  unfold syncE syncS
  cases ho : st.off with
  | true =>
    rw [ho] at c4
    simp only [↓reduceIte]
    clear h ho
    go_enter Tryz.func43, Tryz.ntmps43
    go_wp2_with fail
    go_ret
    exact PlPost.same rfl H.out (Kept.refl _ _)
  | false =>
    rw [ho] at c4
    simp only [↓reduceIte, Bool.false_eq_true]
    by_cases hb : burnE st = 0
    · rw [if_pos hb, hb]
      rw [hb] at HB
      have e : ({ burnS st with su := settL st.no st.lo st.su, lo := [] } : St) = { burnS st with su := settL (burnS st).no (burnS st).lo (burnS st).su, lo := [] } := by rw [burnS_same.1, burnS_same.2.1, burnS_same.2.2]
      rw [e]
      have hll1 : (burnS st).lo.length ≤ 1000000000 := by rw [burnS_same.2.2]; exact hll
      generalize burnS st = st1 at *
      clear h ho hb e hll H
      go_enter Tryz.func43, Tryz.ntmps43
      go_wp2_with (first
        | ((with_reducible refine (HB.out).mono ?_); rintro e w1 ⟨rfl, hR, hK⟩)
        | ((with_reducible refine (settle_any hR hll1).mono ?_); rintro e w2 ⟨rfl, hR2, hK2⟩))
      go_ret
      refine ⟨_, rfl, hR2, rfl, ?_, (foot_b hK).trans hK2 (fun _ _ h => h) (fun _ _ h => h)⟩
      rintro j (rfl | rfl | rfl | hj)
      · exact .inl (.inl rfl)
      · exact .inl (.inr (.inl rfl))
      · exact .inl (.inr (.inr (.inl rfl)))
      · cases hj
    · rw [if_neg hb]
      have hne : (burnE st == 0) = false := by simpa using hb
      have hne2 : (burnE st != 0) = true := by simpa using hb
      generalize burnE st = y at *
      clear h ho hb H
      go_enter Tryz.func43, Tryz.ntmps43
      go_wp2_with ((with_reducible refine (HB.out).mono ?_); rintro e w1 ⟨rfl, hR, hK⟩)
      go_ret
      exact PlPost.same rfl hR (foot_b hK)

/-- How much of a write is kept. -/
def kOf (keep : List Int) (i : Nat) : Nat := if i < keep.length then (((keep.getD i 0) % 18446744073709551616) % 129).toNat else 0
def tear (old new : List UInt8) (k : Nat) : List UInt8 := if k ≤ 64 then new.take k ++ old.drop k else old.take (128 - k) ++ new.drop (128 - k)
theorem tear_len {old new : List UInt8} {k : Nat} (h1 : old.length = 64) (h2 : new.length = 64) : (tear old new k).length = 64 := by
  unfold tear; split <;> simp <;> omega
def tearL (keep : List Int) : Nat → List Wr → Secs → Secs
  | _, [], no => no
  | i, x :: r, no => tearL keep (i + 1) r (no.set x.1 (tear (no.getD x.1 []) x.2 (kOf keep i)))
theorem tearL_snoc (keep : List Int) (x : Wr) : ∀ (l : List Wr) (i : Nat) (no : Secs), tearL keep i (l ++ [x]) no = (tearL keep i l no).set x.1 (tear ((tearL keep i l no).getD x.1 []) x.2 (kOf keep (i + l.length)))
  | [], i, no => by simp [tearL]
  | y :: r, i, no => by
    simp only [List.cons_append, tearL, List.length_cons]
    rw [tearL_snoc keep x r, show i + 1 + r.length = i + (r.length + 1) by omega]
/-- A part of a sector is stored. -/
theorem Raw.part {base : Nat} {w : World} {F : Fp} {st : St} (h : Raw base w F st) {k f : Nat} (hk : k < st.no.length) {old news : List UInt8} (ho : st.no[k]? = some old) (hf : f + news.length ≤ 64) :
    Raw base (w.setCells F.m (k * 64 + f) (Cs news)) F { st with no := st.no.set k (old.take f ++ news ++ old.drop (f + news.length)) } ∧ Kept (fun j => j = F.m) w (w.setCells F.m (k * 64 + f) (Cs news)) := by
  obtain ⟨h1, h2, h3⟩ := own_sec h.own2 ho
  rw [setCells_part h1 (by rw [cs_len, cs_len, h3]; exact hf)]
  have e : (Cs old).take f ++ Cs news ++ (Cs old).drop (f + (Cs news).length) = Cs (old.take f ++ news ++ old.drop (f + news.length)) := by
    rw [cs_len]; simp [Lib.byteCells, List.map_take, List.map_drop]
  rw [e]
  exact h.setN hk (by simp; omega)
end Go.Proofs.YtdebfnlnpfienaaGreatDoor

/- Crash. -/
namespace Go.Proofs.YtdebfnlnpfienaaGreatDoor
open Go.RowKit Lift
set_option linter.unusedSimpArgs false
set_option linter.unusedVariables false

theorem kOf_le (keep : List Int) (i : Nat) : kOf keep i ≤ 128 := by unfold kOf; split <;> omega
theorem kOf_mod {keep : List Int} {i : Nat} {c : Int} (h : keep[i]? = some c) : (IntKind.u64.wrap c).tmod 129 = (kOf keep i : Int) := by
  have hi := (List.getElem?_eq_some_iff.1 h).1
  unfold kOf
  rw [if_pos hi, IntKind.wrap_u64]
  have : keep.getD i 0 = c := by simp [List.getD_eq_getElem?_getD, h]
  rw [this, Int.tmod_eq_emod_of_nonneg (by omega)]
  omega
theorem kOf_no {keep : List Int} {i : Nat} (h : ¬ i < keep.length) : kOf keep i = 0 := by unfold kOf; rw [if_neg h]
theorem wpList_copy_cells {ops : Array Oper} {rest : List Oper} {o : Oper} {a : Act} {w : World} {Q : Exit → Act → World → Prop} (hgd : o.guard = none) (d s : Operand) (ho : o.op = .call { callee := .builtin .copy, args := #[d, s], argTypes := #[83, 83] })
    (b f dCap : Nat) (ad : Addr) (sCap : Nat) (l : List UInt8) (n : Nat) (hn : n = l.length) (hd : a.eval d = .slice (some ⟨b, f, none⟩) n dCap) (hs : a.eval s = .slice (some ad) n sCap)
    (hsrc : w.rangeAt ad.block ad.off (Cs l)) (had : ad.spot = none) (hth : w.there b f l.length)
    (h : wpList Tryz.prog ops Q rest (a.put o.dst (goInt n)) (w.setCells b f (Cs l))) : wpList Tryz.prog ops Q (o :: rest) a w := by
  subst hn
  refine wpList_plain hgd fun K hK => ?_
  have hl : (Cs l).length = l.length := cs_len l
  obtain ⟨ab, ao, asp⟩ := ad
  simp only at had
  subst had
  have hrun := run_copy_cells (P := Tryz.prog) w 83 83 o.type 5 b f l.length dCap ⟨ab, ao, none⟩ l.length sCap (Cs l) Tryz.underlying83 (by kernel_rfl) (by rw [hl]; exact (Nat.min_self _).symm)
    (fun j v hv => by rw [Addr.add_mid]; exact hsrc j v hv) (fun j hj => (hth j (by rw [hl] at hj; exact hj)).1) (fun j hj => (hth j (by rw [hl] at hj; exact hj)).2) (cs_one l)
  rw [hl] at hrun
  unfold Oper.wp
  simp [execOp, ho, resolve, invoke, builtin, hd, hs, hrun, Result.andThen]
  exact hK _ _ h

theorem range_take {w : World} {b o : Nat} {l : List UInt8} (h : w.rangeAt b o (Cs l)) (n : Nat) : w.rangeAt b o (Cs (l.take n)) := by
  intro j v hv
  have hj := (List.getElem?_eq_some_iff.1 hv).1
  rw [cs_len, List.length_take] at hj
  refine h j v ?_
  rw [show Cs (l.take n) = (Cs l).take n by simp [Lib.byteCells, List.map_take], List.getElem?_take_of_lt (by omega)] at hv
  exact hv
theorem there_part {w : World} {b o n : Nat} (h : w.there b o n) (f m : Nat) (hf : f + m ≤ n) : w.there b (o + f) m := fun j hj => by
  have := h (f + j) (by omega)
  rwa [show o + (f + j) = o + f + j by omega] at this
theorem tear_small {old new : List UInt8} {k : Nat} (h1 : old.length = 64) (h2 : new.length = 64) (hk : k ≤ 64) : tear old new k = old.take 0 ++ (new.drop 0).take k ++ old.drop (0 + ((new.drop 0).take k).length) := by
  unfold tear
  rw [if_pos hk]
  simp [h2, Nat.min_eq_left hk]
theorem tear_great {old new : List UInt8} {k f : Nat} (h1 : old.length = 64) (h2 : new.length = 64) (hk : 64 < k) (hf : f = 128 - k) : tear old new k = old.take f ++ (new.drop f).take (64 - f) ++ old.drop (f + ((new.drop f).take (64 - f)).length) := by
  unfold tear
  rw [if_neg (by omega), ← hf]
  rw [List.take_of_length_le (l := new.drop f) (by simp; omega), List.drop_of_length_le (l := old) (by simp; omega), List.append_nil]

theorem drop_wr (x : Wr) (f : Nat) : (wrCells x).toArray.toList.drop (1 + f) = Cs (x.2.drop f) := by
  rw [Nat.add_comm]; simp [wrCells, Lib.byteCells, List.map_drop]
theorem fit_part {l : List UInt8} (h : l.length = 64) {f n : Nat} (hf : f + n ≤ 64) : ((l.drop f).take n).length = n := by
  rw [List.length_take, List.length_drop, h]; omega
theorem fit_le {l : List UInt8} {f n : Nat} (h : l.length = n) (hf : f + n ≤ 64) : f + l.length ≤ 64 := by rw [h]; exact hf

def crashS (st : St) (keep : List Int) : St :=
  let n1 := settL st.su st.lo st.no
  let n2 := tearL keep 0 st.lo n1
  { su := settL n2 st.lo st.su, no := n2, lo := [], fu := -1, off := false }
theorem settL_len (no : Secs) : ∀ (lo : List Wr) (su : Secs), (settL no lo su).length = su.length
  | [], su => rfl
  | x :: r, su => by unfold settL; rw [List.foldl_cons]; exact (settL_len no r _).trans (by simp)
theorem tearL_len (keep : List Int) : ∀ (lo : List Wr) (i : Nat) (no : Secs), (tearL keep i lo no).length = no.length
  | [], i, no => rfl
  | x :: r, i, no => by unfold tearL; exact (tearL_len keep r _ _).trans (by simp)
set_option maxHeartbeats 8000000 in
set_option maxRecDepth 100000 in
theorem crash_any {base : Nat} {w : World} {F : Fp} {st : St} (h : Raw base w F st) (hll : st.lo.length ≤ 1000000000) (ko : Option Addr) (kcap : Nat) (keep : List Int) (hkl : keep.length ≤ 9223372036854775807) (hkeep : SlAt (Rd.int .i64) (fun b => ¬ foot F b) w ko keep) :
    Calls Tryz.prog 16 #[.pointer (some ⟨F.b, 0, none⟩), .slice ko keep.length kcap] w (VoidRaw base F { F with lv := .slice none 0 0 } (crashS st keep) w) := by
  obtain ⟨c0, c1, c2, c3, c4⟩ := h.cells
  obtain ⟨ao, cap, elv⟩ := h.own3.form
  rw [elv] at c2
  have H := Lib.hid h
  have HLV := Lib.hid elv
  have hn2 := h.n2
  have HK := Lib.hid hkeep
  clear h elv hkeep
  go_enter Tryz.func16, Tryz.ntmps16
  go_wp2_with fail
  go_loopw [16] (fun v16 wr => ∃ k : Nat, k ≤ st.lo.length ∧ v16 = .int .i64 k ∧ Hid (Raw base wr F { st with no := settL st.su (st.lo.take k) st.no }) ∧ Kept (foot F) w wr) (fun v16 _ => st.lo.length - (intOf v16).toNat)
  case atStart => exact ⟨0, by omega, rfl, Lib.hid (by simpa [settL] using H.out), Kept.refl _ _⟩
  case round =>
    obtain ⟨k, hk, rfl, hR, hK⟩ := hrel
    obtain ⟨d0, d1, d2, d3, d4⟩ := hR.out.cells
    have hlen : (settL st.su (st.lo.take k) st.no).length = st.no.length := settL_len _ _ _
    simp only [hlen] at d0 d1
    have HLEN := Lib.hid hlen
    clear hlen
    by_cases hkl : k < st.lo.length
    · obtain ⟨x, hx⟩ := some_at hkl
      obtain ⟨g, cap', e2, hg, hrg, hx64⟩ := own_wr hR.out.own3 hx
      obtain ⟨rfl, rfl⟩ : ao = some ⟨g, 0, none⟩ ∧ cap' = cap := by rw [HLV.out] at e2; injection e2 with a b c; exact ⟨a, c.symm⟩
      have hxn : x.1 < st.no.length := by have := hR.out.lat x (List.mem_of_getElem? hx); simp only [HLEN.out] at this; exact this
      obtain ⟨y, hy⟩ := some_at (l := st.su) (k := x.1) (by have := hR.out.sn; simp only [HLEN.out] at this; omega)
      obtain ⟨r1, t1, y64⟩ := own_sec hR.out.own1 hy
      have HI1 := Lib.hid (cs_info y y64)
      have HI2 := Lib.hid (wr_info x hx64)
      obtain ⟨dw, hdw1, hdw2⟩ := u_wr
      have HU1 := Lib.hid hdw1
      have HU2 := Lib.hid hdw2
      have HX := Lib.hid hx
      have HY := Lib.hid hy
      have hkl2 : (k : Int) < (st.lo.length : Int) := by omega
      have HXN := Lib.hid hxn
      have hlim : k ≤ 1000000000 := by omega
      have hxn2 : (x.1 : Int) < (st.no.length : Int) := by omega
      have HRG := Lib.hid hrg
      clear hx hy hdw1 hdw2 hxn hrg e2 hg
      go_wp2_with (first
        | (refine wpList_load_mid rfl 82 _ rfl g (k * 65) rfl (wrCells x) dw HRG.out HU1.out HU2.out HI2.out ?_)
        | (refine wpList_alloc_wr rfl rfl ?_)
        | (refine wpList_store_wr rfl _ _ rfl rfl x rfl hx64 ?_))
      have HA := Lib.hid (hR.out.below ((Below.refl _ wr).alloc (Nat.le_refl _) (.cells (wrCells x).toArray 82)))
      obtain ⟨W2, hW2, HR2, gx, hK2⟩ : ∃ W2, { (wr.alloc (.cells (wrCells x).toArray 82)) with drawn := (wr.alloc (.cells (wrCells x).toArray 82)).drawn + 1 } = W2 ∧ Raw base W2 F { st with no := settL st.su (st.lo.take k) st.no } ∧
          W2.cell? ⟨wr.heap.size, 0, none⟩ = some (.int .i64 (x.1 : Int)) ∧ Kept (foot F) w W2 :=
        ⟨_, rfl, HA.out.below (Below.refl _ _).drew, by show (World.alloc _ _).cell? _ = _; simp [go_sem, wrCells], hK.new.step (Below.refl _ _).drew⟩
      obtain ⟨q0, q1, q2, q3, q4⟩ := HR2.cells
      simp only [HLEN.out] at q0 q1
      obtain ⟨gr, gt, _⟩ := own_sec HR2.own1 HY.out
      have hxn3 : x.1 < (settL st.su (st.lo.take k) st.no).length := by rw [HLEN.out]; exact HXN.out
      obtain ⟨z, hz⟩ := some_at hxn3
      obtain ⟨_, gs, _⟩ := own_sec HR2.own2 hz
      have hS := HR2.setN hxn3 y64
      have HS := Lib.hid hS
      have HK2 := Lib.hid hK2
      have GT := Lib.hid gs
      have GR := Lib.hid gr
      clear hS hK2 gs gr hz HA HR2 r1 t1 hxn3
      refine wp_region_still_tail 15 (by kernel_rfl) (by kernel_rfl) ?_
      rw [hW2]
      clear hW2
      simp only [List.take_succ_cons, List.take_zero, List.drop_succ_cons, List.drop_zero]
      repeat still_step
      refine wpStill_load_mid rfl 80 _ rfl F.s (x.1 * 64) rfl (Cs y) _ GR.out u_sec rfl HI1.out ?_
      repeat still_step
      refine wpStill_nil ?_
      refine wpList_store_mid rfl 80 _ _ rfl F.m (x.1 * 64) (Cs y).toArray rfl rfl (by simpa [cs_len, y64] using GT.out) (by simpa using HI1.out) (all_oneCell_toArray (cs_one y)) ?_
      go_wp2_with fail
      go_roundw
      case measure => simp [intOf]; omega
      case rel =>
        refine ⟨k + 1, by omega, by go_num, Lib.hid ?_, ?_⟩
        · have e := HS.out.1
          rw [take_at2 HX.out, settL_snoc]
          simpa [List.getD_eq_getElem?_getD, HY.out] using e
        · simpa using kept_sets HK2.out HS.out.2 (.inr (.inr (.inl rfl)))
    · obtain rfl : k = st.lo.length := by omega
      rw [List.take_length] at hR HLEN
      obtain ⟨n1, hn1⟩ : ∃ n1, settL st.su st.lo st.no = n1 := ⟨_, rfl⟩
      rw [hn1] at hR HLEN
      have HN1 := Lib.hid hn1
      clear hn1
      rw [HLV.out] at d2
      go_wp2_with fail
      obtain ⟨W1, hW1⟩ : ∃ W1, wr = W1 := ⟨_, rfl⟩
      subst hW1
      clear d0 d1 d2 d3 d4 hk hkl c0 c1 c2 c3 c4
      go_loopw [41] (fun v41 w2 => ∃ k : Nat, k ≤ st.lo.length ∧ v41 = .int .i64 k ∧ Hid (Raw base w2 F { st with no := tearL keep 0 (st.lo.take k) n1 }) ∧ Kept (foot F) w w2) (fun v41 _ => st.lo.length - (intOf v41).toNat)
      case atStart => exact ⟨0, by omega, rfl, Lib.hid (by simpa [tearL] using hR.out), hK⟩
      case round =>
        clear hR hK
        obtain ⟨k, hk, rfl, hR, hK⟩ := hrel
        obtain ⟨d0, d1, d2, d3, d4⟩ := hR.out.cells
        have hlen : (tearL keep 0 (st.lo.take k) n1).length = st.no.length := by rw [tearL_len, HLEN.out]
        simp only [hlen] at d0 d1
        have HLE2 := Lib.hid hlen
        clear hlen
        by_cases hkl : k < st.lo.length
        · obtain ⟨x, hx⟩ := some_at hkl
          obtain ⟨g, cap', e2, hg, hrg, hx64⟩ := own_wr hR.out.own3 hx
          obtain ⟨rfl, rfl⟩ : ao = some ⟨g, 0, none⟩ ∧ cap' = cap := by rw [HLV.out] at e2; injection e2 with a b c; exact ⟨a, c.symm⟩
          have hxn : x.1 < st.no.length := by have := hR.out.lat x (List.mem_of_getElem? hx); simp only [HLE2.out] at this; exact this
          have hxn3 : x.1 < (tearL keep 0 (st.lo.take k) n1).length := by rw [HLE2.out]; exact hxn
          obtain ⟨y, hy⟩ := some_at hxn3
          obtain ⟨r1, t1, y64⟩ := own_sec hR.out.own2 hy
          have HI2 := Lib.hid (wr_info x hx64)
          obtain ⟨dw, hdw1, hdw2⟩ := u_wr
          have HU1 := Lib.hid hdw1
          have HU2 := Lib.hid hdw2
          have HX := Lib.hid hx
          have HY := Lib.hid hy
          have hkl2 : (k : Int) < (st.lo.length : Int) := by omega
          have HXN := Lib.hid hxn3
          have hlim : k ≤ 1000000000 := by omega
          have hxn2 : (x.1 : Int) < (st.no.length : Int) := by omega
          have HRG := Lib.hid hrg
          have hkk := kOf_le keep k
          have HX64 := Lib.hid hx64
          have HY64 := Lib.hid y64
          clear hx hy hdw1 hdw2 hxn hrg e2 hg hxn3 r1 t1 y64
          by_cases hik : k < keep.length
          · obtain ⟨c, hc⟩ := some_at hik
            obtain ⟨kb, koff, cs0, rfl, _, hkb, ⟨rfl, _⟩, hcell⟩ := (HK.out.kept hK (fun b hb _ => hb)).get hc
            have hik2 : (k : Int) < (keep.length : Int) := by omega
            have HMOD := Lib.hid (kOf_mod hc)
            have HW64 := Lib.hid (show wrap64 (kOf keep k : Int) = (kOf keep k : Int) by unfold wrap64; omega)
            have HW129 := Lib.hid (show IntKind.u64.wrap 129 = 129 by decide)
            obtain ⟨kk, hkk0⟩ : ∃ kk, kOf keep k = kk := ⟨_, rfl⟩
            rw [hkk0] at HMOD HW64 hkk
            have HKK := Lib.hid hkk0
            have hcell0 : wr.cell? ⟨kb, koff + k, none⟩ = some (.int .i64 c) := by simpa [Rd.int] using hcell 0 _ rfl
            clear hkk0 hcell hc hik
            by_cases h64 : kk ≤ 64
            · have hd64 : decide ((64 : Int) < (kk : Int)) = false := by simp; omega
              have h64i : (kk : Int) ≤ 64 := by omega
              have HFN := Lib.hid (show 0 + kk ≤ 64 by omega)
              have hmod := HMOD.out
              have hw129 := HW129.out
              go_wp2_with (first
                | (refine wpList_load_mid rfl 82 _ rfl g (k * 65) rfl (wrCells x) dw HRG.out HU1.out HU2.out HI2.out ?_)
                | (refine wpList_alloc_wr rfl rfl ?_)
                | (refine wpList_store_wr rfl _ _ rfl rfl x rfl HX64.out ?_))
              clear hmod hw129
              have HA := Lib.hid (hR.out.below ((Below.refl _ wr).alloc (Nat.le_refl _) (.cells (wrCells x).toArray 82)))
              obtain ⟨W2, hW2, HR2, gx, hgr, hK2⟩ : ∃ W2, { (wr.alloc (.cells (wrCells x).toArray 82)) with drawn := (wr.alloc (.cells (wrCells x).toArray 82)).drawn + 1 } = W2 ∧ Raw base W2 F { st with no := tearL keep 0 (st.lo.take k) n1 } ∧
                  W2.cell? ⟨wr.heap.size, 0, none⟩ = some (.int .i64 (x.1 : Int)) ∧ W2.heap[wr.heap.size]? = some (.cells (wrCells x).toArray 82 (0, 0)) ∧ Kept (foot F) w W2 :=
                ⟨_, rfl, HA.out.below (Below.refl _ _).drew, by show (World.alloc _ _).cell? _ = _; simp [go_sem, wrCells], heap_alloc_last wr _, hK.new.step (Below.refl _ _).drew⟩
              obtain ⟨q0, q1, q2, q3, q4⟩ := HR2.cells
              simp only [HLE2.out] at q0 q1
              obtain ⟨gr, gt, _⟩ := own_sec HR2.own2 HY.out
              have hfit : ((x.2.drop 0).take kk).length = kk := fit_part HX64.out HFN.out
              have GT := Lib.hid (there_part gt 0 ((x.2.drop 0).take kk).length (fit_le hfit HFN.out))
              have HS := Lib.hid (HR2.part (k := x.1) (f := 0) (news := (x.2.drop 0).take kk) HXN.out HY.out (fit_le hfit HFN.out))
              have HK2 := Lib.hid hK2
              have HF := Lib.hid hfit
              have GR := Lib.hid (range_take (row_at hgr (1 + 0) (Cs (x.2.drop 0)) (drop_wr x 0)) kk)
              have HTE := Lib.hid (tear_small HY64.out HX64.out h64)
              clear hK2 gr gt hgr HA HR2 hfit
              refine wp_region_still_tail 14 (by kernel_rfl) (by kernel_rfl) ?_
              rw [hW2]
              clear hW2
              simp only [List.take_succ_cons, List.take_zero, List.drop_succ_cons, List.drop_zero]
              repeat still_step
              refine wpStill_nil ?_
              refine wpList_copy_cells rfl _ _ rfl F.m (x.1 * 64 + 0) _ ⟨wr.heap.size, 1 + 0, none⟩ _ ((x.2.drop 0).take kk) (kk) HF.out.symm rfl rfl GR.out rfl GT.out ?_
              go_wp2_with fail
              go_roundw
              case measure => simp [intOf]; omega
              case rel =>
                refine ⟨k + 1, by omega, by go_num, Lib.hid ?_, ?_⟩
                · have e := HS.out.1
                  have hlt : (st.lo.take k).length = k := by simp; omega
                  rw [take_at2 HX.out, tearL_snoc, hlt, Nat.zero_add]
                  rw [show (tearL keep 0 (st.lo.take k) n1).getD x.1 [] = y by simp [List.getD_eq_getElem?_getD, HY.out], HKK.out, HTE.out]
                  exact e
                · exact kept_sets HK2.out HS.out.2 (.inr (.inr (.inl rfl)))
            · obtain ⟨f, hf⟩ : ∃ f, f = 128 - kk := ⟨_, rfl⟩
              have hd64 : decide ((64 : Int) < (kk : Int)) = true := by simp; omega
              have hfi : (128 : Int) - (kk : Int) = (f : Int) := by omega
              have hf64 : (f : Int) < 64 := by omega
              have hf64b : (f : Int) ≤ 64 := by omega
              have hf63 : f < 64 := by omega
              have hf65 : ¬ 64 = f := by omega
              have HFN := Lib.hid (show f + (64 - f) ≤ 64 by omega)
              have hmod := HMOD.out
              have hw129 := HW129.out
              have HFK := Lib.hid hf
              clear hf
              go_wp2_with (first
                | (refine wpList_load_mid rfl 82 _ rfl g (k * 65) rfl (wrCells x) dw HRG.out HU1.out HU2.out HI2.out ?_)
                | (refine wpList_alloc_wr rfl rfl ?_)
                | (refine wpList_store_wr rfl _ _ rfl rfl x rfl HX64.out ?_))
              clear hmod hw129 hfi
              have HA := Lib.hid (hR.out.below ((Below.refl _ wr).alloc (Nat.le_refl _) (.cells (wrCells x).toArray 82)))
              obtain ⟨W2, hW2, HR2, gx, hgr, hK2⟩ : ∃ W2, { (wr.alloc (.cells (wrCells x).toArray 82)) with drawn := (wr.alloc (.cells (wrCells x).toArray 82)).drawn + 1 } = W2 ∧ Raw base W2 F { st with no := tearL keep 0 (st.lo.take k) n1 } ∧
                  W2.cell? ⟨wr.heap.size, 0, none⟩ = some (.int .i64 (x.1 : Int)) ∧ W2.heap[wr.heap.size]? = some (.cells (wrCells x).toArray 82 (0, 0)) ∧ Kept (foot F) w W2 :=
                ⟨_, rfl, HA.out.below (Below.refl _ _).drew, by show (World.alloc _ _).cell? _ = _; simp [go_sem, wrCells], heap_alloc_last wr _, hK.new.step (Below.refl _ _).drew⟩
              obtain ⟨q0, q1, q2, q3, q4⟩ := HR2.cells
              simp only [HLE2.out] at q0 q1
              obtain ⟨gr, gt, _⟩ := own_sec HR2.own2 HY.out
              have hfit : ((x.2.drop f).take (64 - f)).length = (64 - f) := fit_part HX64.out HFN.out
              have GT := Lib.hid (there_part gt f ((x.2.drop f).take (64 - f)).length (fit_le hfit HFN.out))
              have HS := Lib.hid (HR2.part (k := x.1) (f := f) (news := (x.2.drop f).take (64 - f)) HXN.out HY.out (fit_le hfit HFN.out))
              have HK2 := Lib.hid hK2
              have HF := Lib.hid hfit
              have GR := Lib.hid (range_take (row_at hgr (1 + f) (Cs (x.2.drop f)) (drop_wr x f)) (64 - f))
              have HTE := Lib.hid (tear_great HY64.out HX64.out (Nat.lt_of_not_le h64) HFK.out)
              clear hK2 gr gt hgr HA HR2 hfit
              refine wp_region_still_tail 14 (by kernel_rfl) (by kernel_rfl) ?_
              rw [hW2]
              clear hW2
              simp only [List.take_succ_cons, List.take_zero, List.drop_succ_cons, List.drop_zero]
              repeat still_step
              refine wpStill_nil ?_
              refine wpList_copy_cells rfl _ _ rfl F.m (x.1 * 64 + f) _ ⟨wr.heap.size, 1 + f, none⟩ _ ((x.2.drop f).take (64 - f)) (64 - f) HF.out.symm rfl rfl GR.out rfl GT.out ?_
              go_wp2_with fail
              go_roundw
              case measure => simp [intOf]; omega
              case rel =>
                refine ⟨k + 1, by omega, by go_num, Lib.hid ?_, ?_⟩
                · have e := HS.out.1
                  have hlt : (st.lo.take k).length = k := by simp; omega
                  rw [take_at2 HX.out, tearL_snoc, hlt, Nat.zero_add]
                  rw [show (tearL keep 0 (st.lo.take k) n1).getD x.1 [] = y by simp [List.getD_eq_getElem?_getD, HY.out], HKK.out, HTE.out]
                  exact e
                · exact kept_sets HK2.out HS.out.2 (.inr (.inr (.inl rfl)))
          · have hik2 : decide ((k : Int) < (keep.length : Int)) = false := by simp; omega
            have HKK := Lib.hid (kOf_no hik)
            have HFN := Lib.hid (show 0 + 0 ≤ 64 by omega)
            have hkb := hK
            go_wp2_with (first
              | (refine wpList_load_mid rfl 82 _ rfl g (k * 65) rfl (wrCells x) dw HRG.out HU1.out HU2.out HI2.out ?_)
              | (refine wpList_alloc_wr rfl rfl ?_)
              | (refine wpList_store_wr rfl _ _ rfl rfl x rfl HX64.out ?_))
            clear hkb
            have HA := Lib.hid (hR.out.below ((Below.refl _ wr).alloc (Nat.le_refl _) (.cells (wrCells x).toArray 82)))
            obtain ⟨W2, hW2, HR2, gx, hgr, hK2⟩ : ∃ W2, { (wr.alloc (.cells (wrCells x).toArray 82)) with drawn := (wr.alloc (.cells (wrCells x).toArray 82)).drawn + 1 } = W2 ∧ Raw base W2 F { st with no := tearL keep 0 (st.lo.take k) n1 } ∧
                W2.cell? ⟨wr.heap.size, 0, none⟩ = some (.int .i64 (x.1 : Int)) ∧ W2.heap[wr.heap.size]? = some (.cells (wrCells x).toArray 82 (0, 0)) ∧ Kept (foot F) w W2 :=
              ⟨_, rfl, HA.out.below (Below.refl _ _).drew, by show (World.alloc _ _).cell? _ = _; simp [go_sem, wrCells], heap_alloc_last wr _, hK.new.step (Below.refl _ _).drew⟩
            obtain ⟨q0, q1, q2, q3, q4⟩ := HR2.cells
            simp only [HLE2.out] at q0 q1
            obtain ⟨gr, gt, _⟩ := own_sec HR2.own2 HY.out
            have hfit : ((x.2.drop 0).take 0).length = 0 := fit_part HX64.out HFN.out
            have GT := Lib.hid (there_part gt 0 ((x.2.drop 0).take 0).length (fit_le hfit HFN.out))
            have HS := Lib.hid (HR2.part (k := x.1) (f := 0) (news := (x.2.drop 0).take 0) HXN.out HY.out (fit_le hfit HFN.out))
            have HK2 := Lib.hid hK2
            have HF := Lib.hid hfit
            have GR := Lib.hid (range_take (row_at hgr (1 + 0) (Cs (x.2.drop 0)) (drop_wr x 0)) 0)
            have HTE := Lib.hid (tear_small (k := 0) HY64.out HX64.out (by omega))
            clear hK2 gr gt hgr HA HR2 hfit
            refine wp_region_still_tail 14 (by kernel_rfl) (by kernel_rfl) ?_
            rw [hW2]
            clear hW2
            simp only [List.take_succ_cons, List.take_zero, List.drop_succ_cons, List.drop_zero]
            repeat still_step
            refine wpStill_nil ?_
            refine wpList_copy_cells rfl _ _ rfl F.m (x.1 * 64 + 0) _ ⟨wr.heap.size, 1 + 0, none⟩ _ ((x.2.drop 0).take 0) (0) HF.out.symm rfl rfl GR.out rfl GT.out ?_
            go_wp2_with fail
            go_roundw
            case measure => simp [intOf]; omega
            case rel =>
              refine ⟨k + 1, by omega, by go_num, Lib.hid ?_, ?_⟩
              · have e := HS.out.1
                have hlt : (st.lo.take k).length = k := by simp; omega
                rw [take_at2 HX.out, tearL_snoc, hlt, Nat.zero_add]
                rw [show (tearL keep 0 (st.lo.take k) n1).getD x.1 [] = y by simp [List.getD_eq_getElem?_getD, HY.out], HKK.out, HTE.out]
                exact e
              · exact kept_sets HK2.out HS.out.2 (.inr (.inr (.inl rfl)))
        · obtain rfl : k = st.lo.length := by omega
          rw [List.take_length] at hR HLE2
          have hll2 := hll
          clear d0 d1 d2 d3 d4
          go_wp2_with ((with_reducible refine (settle_any hR.out hll2).mono ?_); rintro e w5 ⟨rfl, hR5, hK5⟩; have H5 := Lib.hid hR5; have HK5 := Lib.hid hK5; have f3 : w5.frozen? ⟨F.b, 3, none⟩ = false := hR5.free 3; have f4 : w5.frozen? ⟨F.b, 4, none⟩ = false := hR5.free 4; have c3 : w5.cell? ⟨F.b, 3, none⟩ = some (.int .i64 st.fu) := hR5.cells.2.2.2.1; have c4 : w5.cell? ⟨F.b, 4, none⟩ = some (.bool st.off) := hR5.cells.2.2.2.2; clear hR5 hK5)
          go_end0
          have e := (H5.out.set4 false).set3 (x := -1) (by omega) (by omega)
          refine ⟨rfl, ?_, ((hK.trans HK5.out (Z := foot F) (fun _ _ h => h) (fun _ _ h => h)).set (.inl rfl)).set (.inl rfl)⟩
          unfold crashS
          simp only [HN1.out]
          exact e
end Go.Proofs.YtdebfnlnpfienaaGreatDoor

/- New, Image, Copy. -/
namespace Go.Proofs.YtdebfnlnpfienaaGreatDoor
open Go.RowKit Lift
set_option linter.unusedSimpArgs false
set_option linter.unusedVariables false

def secZ : Array Value := (List.replicate 64 (.int .u8 0)).toArray
theorem sec_row : (Tryz.prog.info? 80).map (fun i => (i.zero, i.size, i.bytes)) = some (some (.agg secZ), 64, 64) := by kernel_rfl
theorem u8_row : (Tryz.prog.info? 5).map (fun i => (i.zero, i.size, i.bytes)) = some (some (.int .u8 0), 1, 1) := by kernel_rfl
theorem secZ_get (k : Nat) (h : k < secZ.size) : secZ[k] = .int .u8 0 := by
  simp only [secZ, List.getElem_toArray, List.getElem_replicate]
theorem made_sec (n : Nat) : (madeCells secZ (n * 64)).toList = (List.replicate n (Cs zer)).flatten := by
  have h1 : madeCells secZ (n * 64) = (List.replicate (n * 64) (Value.int .u8 0)).toArray := by
    apply Array.ext
    · simp [madeCells]
    · intro i h1 h2
      have hz : secZ.size = 64 := by simp [secZ]
      have hm : i % 64 < secZ.size := by rw [hz]; exact Nat.mod_lt _ (by omega)
      simp only [madeCells, hz, Array.getElem_map, Array.getElem_range]
      rw [getElem!_pos secZ (i % 64) hm, secZ_get _ hm, List.getElem_toArray, List.getElem_replicate]
  rw [h1]
  have h2 : Cs zer = List.replicate 64 (Value.int .u8 0) := by simp only [Lib.byteCells, zer, List.map_replicate]; rfl
  rw [h2, List.flatten_replicate_replicate]
theorem run_mk (w : World) (n : Nat) (hn : n ≤ 8192) : (Instr.makeSlice 54 (.int .i64 (n : Int)) (.int .i64 (n : Int))).run Tryz.prog w = .ok (.slice (some ⟨w.heap.size, 0, none⟩) n n) (w.alloc (.cells (madeCells secZ (n * 64)) 80)) := by
  obtain ⟨i0, hi, hz0, hz1, hz2⟩ := info_parts sec_row
  have := run_makeSlice (P := Tryz.prog) w 54 80 i0 _ Tryz.underlying54 hi hz0 .i64 .i64 n n (by omega) (by omega) (by rw [hz1]; omega) (by rw [hz2]; omega) (by omega)
  rw [hz1] at this
  simpa [Value.cells] using this
theorem own_made_sec {w : World} {g n base : Nat} (hg : w.heap[g]? = some (.cells (madeCells secZ (n * 64)) 80 (0, 0))) (hb : base ≤ g) (hn : n ≤ 8192) :
    Own rSec (fun _ => True) w base 80 (.slice (some ⟨g, 0, none⟩) n n) (List.replicate n zer) := by
  refine ⟨(madeCells secZ (n * 64)).toList, ⟨?_, .inr ⟨g, n, _, ?_, hb, hg, by simp, by unfold maxLen; omega, size_madeCells _ _, ?_⟩⟩, ?_⟩
  · simp [size_madeCells, rSec]
  · simp
  · rw [List.length_replicate]; exact List.take_of_length_le (by simp [size_madeCells, rSec])
  · refine ⟨List.replicate n (Cs zer), made_sec n, by simp, fun k c hk => ⟨Cs zer, ?_, ?_⟩⟩
    · have := (List.getElem?_eq_some_iff.1 hk).1
      rw [List.getElem?_replicate, if_pos (by simpa using this)]
    · obtain ⟨h1, h2⟩ := List.getElem?_eq_some_iff.1 hk
      simp at h2
      subst h2
      exact ⟨rfl, zer_len⟩

def St.new (n : Nat) : St := { su := List.replicate n zer, no := List.replicate n zer, lo := [], fu := -1, off := false }
theorem raw_new {w : World} {base b s m n : Nat} (hs : w.heap[s]? = some (.cells (madeCells secZ (n * 64)) 80 (0, 0))) (hm : w.heap[m]? = some (.cells (madeCells secZ (n * 64)) 80 (0, 0)))
    (hb : w.heap[b]? = some (.cells #[.slice (some ⟨s, 0, none⟩) n n, .slice (some ⟨m, 0, none⟩) n n, .slice none 0 0, .int .i64 (-1), .bool false] 57 (0, 0)))
    (h1 : base ≤ s) (h2 : base ≤ m) (h3 : base ≤ b) (d1 : s ≠ b) (d2 : m ≠ b) (d3 : s ≠ m) (hn1 : 1 ≤ n) (hn : n ≤ 8192) : Raw base w ⟨b, s, m, n, n, .slice none 0 0⟩ (St.new n) where
  n1 := by simpa [St.new] using hn1
  n2 := by simpa [St.new] using hn
  sn := by simp [St.new]
  lat := by simp [St.new]
  fu1 := by simp [St.new]
  fu2 := by simp [St.new]
  blk := by simpa [plCells, St.new] using hb
  own1 := by simpa [St.new] using own_made_sec hs h1 hn
  own2 := by simpa [St.new] using own_made_sec hm h2 hn
  own3 := Own.nil _ _ _ _ _
  bb := h3
  a1 := d1
  a2 := d2
  a3 := d3
  a4 := by simp [Value.ownBlock]
  a5 := by simp [Value.ownBlock]
  a6 := by simp [Value.ownBlock]
  nil := fun _ => rfl
/-- A plate that is new. -/
def NewPost (st : St) (w : World) (e : Ending) (w' : World) : Prop := ∃ F, e = .returned (.tuple #[.pointer (some ⟨F.b, 0, none⟩), .int .i64 0]) ∧ Raw w.heap.size w' F st ∧ Below w.heap.size w w'
attribute [local go_sem ↓] run_mk
theorem new_end (w : World) (n : Nat) (h1 : 1 ≤ n) (h2 : n ≤ 8192) :
    Raw w.heap.size (((w.alloc (.cells (madeCells secZ (n * 64)) 80)).alloc (.cells (madeCells secZ (n * 64)) 80)).alloc (.cells #[.slice (some ⟨w.heap.size, 0, none⟩) n n, .slice (some ⟨w.heap.size + 1, 0, none⟩) n n, .slice none 0 0, .int .i64 (-1), .bool false] 57)).drew ⟨w.heap.size + 1 + 1, w.heap.size, w.heap.size + 1, n, n, .slice none 0 0⟩ (St.new n) ∧
    Raw w.heap.size (((w.alloc (.cells (madeCells secZ (n * 64)) 80)).alloc (.cells (madeCells secZ (n * 64)) 80)).alloc (.cells #[.slice (some ⟨w.heap.size + 1, 0, none⟩) n n, .slice (some ⟨w.heap.size, 0, none⟩) n n, .slice none 0 0, .int .i64 (-1), .bool false] 57)).drew ⟨w.heap.size + 1 + 1, w.heap.size + 1, w.heap.size, n, n, .slice none 0 0⟩ (St.new n) ∧
    ∀ c, Below w.heap.size w (((w.alloc (.cells (madeCells secZ (n * 64)) 80)).alloc (.cells (madeCells secZ (n * 64)) 80)).alloc (.cells c 57)).drew := by
  have hh : ∀ A B C : Obj, ((((w.alloc A).alloc B).alloc C).drew).heap[w.heap.size]? = some A ∧ ((((w.alloc A).alloc B).alloc C).drew).heap[w.heap.size + 1]? = some B ∧ ((((w.alloc A).alloc B).alloc C).drew).heap[w.heap.size + 1 + 1]? = some C := by
    intro A B C
    refine ⟨?_, ?_, ?_⟩
    · show (((w.alloc A).alloc B).alloc C).heap[_]? = _
      rw [heap_alloc_old _ _ (by simp; omega), heap_alloc2_old]
    · show (((w.alloc A).alloc B).alloc C).heap[_]? = _
      rw [heap_alloc_old _ _ (by simp), heap_alloc2_new]
    · show (((w.alloc A).alloc B).alloc C).heap[_]? = _
      have := heap_alloc_new ((w.alloc A).alloc B) C
      simpa using this
  refine ⟨?_, ?_, ?_⟩
  · obtain ⟨a, b, c⟩ := hh (.cells (madeCells secZ (n * 64)) 80) (.cells (madeCells secZ (n * 64)) 80) (.cells #[.slice (some ⟨w.heap.size, 0, none⟩) n n, .slice (some ⟨w.heap.size + 1, 0, none⟩) n n, .slice none 0 0, .int .i64 (-1), .bool false] 57)
    exact raw_new a b c (Nat.le_refl _) (by omega) (by omega) (by omega) (by omega) (by omega) h1 h2
  · obtain ⟨a, b, c⟩ := hh (.cells (madeCells secZ (n * 64)) 80) (.cells (madeCells secZ (n * 64)) 80) (.cells #[.slice (some ⟨w.heap.size + 1, 0, none⟩) n n, .slice (some ⟨w.heap.size, 0, none⟩) n n, .slice none 0 0, .int .i64 (-1), .bool false] 57)
    exact raw_new b a c (by omega) (Nat.le_refl _) (by omega) (by omega) (by omega) (by omega) h1 h2
  · intro c
    exact ((((Below.refl _ w).alloc (Nat.le_refl _) _).alloc (by simp) _).alloc (by simp; omega) _).drew
set_option maxHeartbeats 1000000 in
set_option maxRecDepth 100000 in
theorem new_any (w : World) (n : Nat) (h1 : 1 ≤ n) (h2 : n ≤ 8192) : Calls Tryz.prog 6 #[.int .i64 (n : Int)] w (NewPost (St.new n) w) := by
  have hd1 : decide ((n : Int) < 1) = false := by simp; omega
  have hd2 : decide ((8192 : Int) < (n : Int)) = false := by simp; omega
  go_enter Tryz.func6, Tryz.ntmps6
  go_wp2_with fail
  go_region_law fail
  all_goals
    go_wp2_with fail
    go_ret2
    first
      | exact ⟨⟨w.heap.size + 1 + 1, w.heap.size, w.heap.size + 1, n, n, .slice none 0 0⟩, rfl, (new_end w n h1 h2).1, (new_end w n h1 h2).2.2 _⟩
      | exact ⟨⟨w.heap.size + 1 + 1, w.heap.size + 1, w.heap.size, n, n, .slice none 0 0⟩, rfl, (new_end w n h1 h2).2.1, (new_end w n h1 h2).2.2 _⟩

theorem new_no (w : World) (x : Int) (h : x < 1 ∨ 8192 < x) : Calls Tryz.prog 6 #[.int .i64 x] w (fun e w' => e = .returned (.tuple #[.pointer none, .int .i64 2]) ∧ w = w') := by
  by_cases h1 : x < 1
  · have hd1 : decide (x < 1) = true := by simpa using h1
    go_enter Tryz.func6, Tryz.ntmps6
    go_wp2_with fail
    go_ret2
    exact ⟨rfl, rfl⟩
  · have hd1 : decide (x < 1) = false := by simpa using h1
    have hd2 : decide (8192 < x) = true := by simp; omega
    clear h h1
    go_enter Tryz.func6, Tryz.ntmps6
    go_wp2_with fail
    go_ret2
    exact ⟨rfl, rfl⟩

/-! ### Image -/
def StrPost (s : ByteArray) (w : World) (e : Ending) (w' : World) : Prop := e = .returned (.string s) ∧ Below w.heap.size w w'
def imageB (no : Secs) : ByteArray := ⟨no.flatten.toArray⟩
end Go.Proofs.YtdebfnlnpfienaaGreatDoor

/- Copy. -/
namespace Go.Proofs.YtdebfnlnpfienaaGreatDoor
open Go.RowKit Lift
set_option linter.unusedSimpArgs false
set_option linter.unusedVariables false

theorem sec_one : ∀ S w cs c, rSec.rel S w cs c → ∀ u ∈ cs, u.oneCell' = true := by
  rintro S w cs c ⟨rfl, _⟩ u hu; exact cs_one _ u hu
theorem wr_ones : ∀ S w cs c, rWr.rel S w cs c → ∀ u ∈ cs, u.oneCell' = true := by
  rintro S w cs c ⟨rfl, _⟩ u hu; exact wr_one _ u hu
theorem own_some {α : Type} {r : Rd α} {S : Nat → Prop} {w : World} {base : Nat} {e : TypeId} {v : Value} {l : List α} (h : Own r S w base e v l) (hl : l ≠ []) : ∃ g cap, v = .slice (some ⟨g, 0, none⟩) l.length cap := by
  obtain ⟨ao, cap, rfl⟩ := h.form
  have hn : Value.ownBlock (.slice ao l.length cap) ≠ none := by
    obtain ⟨xs, h1, _⟩ := h
    rcases h1.2 with ⟨e1, e2⟩ | ⟨g, cap', cur, e1, _⟩
    · exact absurd (List.eq_nil_of_length_eq_zero e2) hl
    · injection e1 with e1; subst e1; simp [Value.ownBlock]
  obtain ⟨g, rfl⟩ := h.block hn
  exact ⟨g, cap, rfl⟩
theorem Kept.push2 {w w' : World} {o : Obj} {n cap : Nat} (hk : Kept (fun k => some k = Value.ownBlock (.slice (some ⟨w.heap.size, 0, none⟩) n cap)) (w.alloc o) w') : Kept (fun k => w.heap.size ≤ k) w w' :=
  (Kept.alloc (fun _ => False) w o).trans hk (fun _ _ h => h.elim) (fun _ _ h => by injection h with h; exact Nat.le_of_eq h.symm)
theorem own_lo {w : World} {base : Nat} {v : Value} {l : List Wr} (h : Own rWr (fun _ => True) w base 82 v l) (hl : l ≠ []) : ∃ g cap, v = .slice (some ⟨g, 0, none⟩) l.length cap := own_some h hl
/-- A row of loose writes, nil where there is none. -/
def LoPost (l : List Wr) (w : World) (x : Ending) (w' : World) : Prop := ∃ ao cap, x = .returned (.slice ao l.length cap) ∧ Own rWr (fun _ => True) w' w.heap.size 82 (.slice ao l.length cap) l ∧ Below w.heap.size w w' ∧ (l = [] → Value.slice ao l.length cap = .slice none 0 0)
/-- Another plate of one's own. -/
def CopyPost (st : St) (w : World) (e : Ending) (w' : World) : Prop := ∃ F, e = .returned (.pointer (some ⟨F.b, 0, none⟩)) ∧ Raw w.heap.size w' F st ∧ Below w.heap.size w w'
structure CopyS (base : Nat) (W0 : World) (tb : Nat) (F : Fp) (st : St) (w' : World) : Prop where
  kept : Kept (fun k => k = tb) W0 w'
  raw : Raw base w' F st
  nb : ¬ foot F tb
  lt : tb < W0.heap.size
theorem CopyS.step {base : Nat} {W0 : World} {tb : Nat} {F : Fp} {st : St} {w1 w2 : World} (h : CopyS base W0 tb F st w1) (hb : Below w1.heap.size w1 w2) : CopyS base W0 tb F st w2 :=
  ⟨h.kept.step hb, h.raw.below hb, h.nb, h.lt⟩
theorem CopyS.set {base : Nat} {W0 : World} {tb : Nat} {F : Fp} {st : St} {w1 : World} (h : CopyS base W0 tb F st w1) (i : Nat) (v : Value) : CopyS base W0 tb F st (w1.setCell ⟨tb, i, none⟩ v) :=
  ⟨h.kept.set rfl, h.raw.kept (Kept.setCell (X := fun k => k = tb) w1 (p := ⟨tb, i, none⟩) rfl v) (fun k hk e => by subst e; exact h.nb hk), h.nb, h.lt⟩
def CopyL (base : Nat) (W0 : World) (tb : Nat) (F : Fp) (st : St) (ao : Option Addr) (cap : Nat) (w' : World) : Prop :=
  CopyS base W0 tb F st w' ∧ w'.cell? ⟨F.b, 0, none⟩ = some (.slice (some ⟨F.s, 0, none⟩) st.no.length F.cs) ∧ w'.cell? ⟨F.b, 1, none⟩ = some (.slice (some ⟨F.m, 0, none⟩) st.no.length F.cm) ∧ w'.cell? ⟨F.b, 2, none⟩ = some (.slice ao st.lo.length cap)
theorem CopyS.cells {base : Nat} {W0 : World} {tb : Nat} {F : Fp} {st : St} {ao : Option Addr} {cap : Nat} {w' : World} (h : CopyS base W0 tb F st w') (e : Hid (F.lv = .slice ao st.lo.length cap)) : CopyL base W0 tb F st ao cap w' := by
  obtain ⟨c0, c1, c2, _⟩ := h.raw.cells
  rw [e.out] at c2
  exact ⟨h, c0, c1, c2⟩
theorem copy_end {w w5 w6 w7 W0 wd : World} {base g5 cap5 g6 cap6 cap7 : Nat} {ao7 : Option Addr} {F : Fp} {st : St} (hR : Raw base w F st) (hW0 : W0 = w.alloc (.cells (plCells F st.no.length st) 57)) (hwd : wd.heap = W0.heap ∧ wd.os = W0.os ∧ wd.tape = W0.tape ∧ wd.output = W0.output)
    (hO5 : Own rSec (fun _ => True) w5 wd.heap.size 80 (.slice (some ⟨g5, 0, none⟩) st.su.length cap5) st.su) (hb5 : Below wd.heap.size wd w5)
    (hO6 : Own rSec (fun _ => True) w6 w5.heap.size 80 (.slice (some ⟨g6, 0, none⟩) st.no.length cap6) st.no) (hb6 : Below w5.heap.size w5 w6)
    (hO7 : Own rWr (fun _ => True) w7 w6.heap.size 82 (.slice ao7 st.lo.length cap7) st.lo) (hb7 : Below w6.heap.size w6 w7) (hnil : st.lo = [] → Value.slice ao7 st.lo.length cap7 = .slice none 0 0) :
    CopyPost st w (.returned (.pointer (some ⟨w.heap.size, 0, none⟩))) (((w7.setCell ⟨w.heap.size, 0, none⟩ (.slice (some ⟨g5, 0, none⟩) st.su.length cap5)).setCell ⟨w.heap.size, 1, none⟩ (.slice (some ⟨g6, 0, none⟩) st.no.length cap6)).setCell ⟨w.heap.size, 2, none⟩ (.slice ao7 st.lo.length cap7)) := by
  have hsz : wd.heap.size = w.heap.size + 1 := by rw [hwd.1, hW0]; simp
  have s5 := hb5.size
  have s6 := hb6.size
  have s7 := hb7.size
  have hblk : w7.heap[w.heap.size]? = some (.cells (plCells F st.no.length st) 57 (0, 0)) := by
    rw [hb7.block _ (by omega), hb6.block _ (by omega), hb5.block _ (by omega), hwd.1, hW0]
    exact heap_alloc_new w _
  have l5 := hO5.lt g5 rfl
  have l6 := hO6.lt g6 rfl
  have l7 := hO7.lt
  have hK3 := (((Kept.refl (fun k => k = w.heap.size) w7).set (p := ⟨w.heap.size, 0, none⟩) (u := (.slice (some ⟨g5, 0, none⟩) st.su.length cap5)) rfl).set (p := ⟨w.heap.size, 1, none⟩) (u := (.slice (some ⟨g6, 0, none⟩) st.no.length cap6)) rfl).set (p := ⟨w.heap.size, 2, none⟩) (u := (.slice ao7 st.lo.length cap7)) rfl
  have hW : Below w.heap.size w w7 := by
    have h0 : Below w.heap.size w wd := by
      have : Below w.heap.size w W0 := by rw [hW0]; exact (Below.refl _ _).alloc (Nat.le_refl _) _
      exact ⟨hwd.2.1.trans this.os, hwd.2.2.1.trans this.tape, hwd.2.2.2.trans this.output, by omega, fun k hk => by rw [hwd.1]; exact this.block k hk⟩
    exact ((h0.trans (hb5.mono (by omega))).trans (hb6.mono (by omega))).trans (hb7.mono (by omega))
  refine ⟨⟨w.heap.size, g5, g6, cap5, cap6, .slice ao7 st.lo.length cap7⟩, rfl, ?_, ?_⟩
  · have o5 : Own rSec (fun _ => True) w7 w.heap.size 80 (.slice (some ⟨g5, 0, none⟩) st.no.length cap5) st.su := by
      have := ((hO5.below hb6).below hb7).rebase (base' := w.heap.size) (by omega)
      rw [← hR.sn]; exact this
    have o6 : Own rSec (fun _ => True) w7 w.heap.size 80 (.slice (some ⟨g6, 0, none⟩) st.no.length cap6) st.no := (hO6.below hb7).rebase (by omega)
    have o7 : Own rWr (fun _ => True) w7 w.heap.size 82 (.slice ao7 st.lo.length cap7) st.lo := hO7.rebase (by omega)
    exact {
      n1 := hR.n1
      n2 := hR.n2
      sn := hR.sn
      lat := hR.lat
      fu1 := hR.fu1
      fu2 := hR.fu2
      blk := by
        have b0 := heap_setCell_same w7 w.heap.size 0 _ _ (.slice (some ⟨g5, 0, none⟩) st.su.length cap5) hblk
        have b1 := heap_setCell_same _ w.heap.size 1 _ _ (.slice (some ⟨g6, 0, none⟩) st.no.length cap6) b0
        have b2 := heap_setCell_same _ w.heap.size 2 _ _ (.slice ao7 st.lo.length cap7) b1
        rw [b2, hR.sn]; rfl
      own1 := o5.flat sec_flat hK3 (fun k e => by injection e with e; subst e; show ¬ g5 = w.heap.size; omega)
      own2 := o6.flat sec_flat hK3 (fun k e => by injection e with e; subst e; show ¬ g6 = w.heap.size; omega)
      own3 := o7.flat wr_flat hK3 (fun k e hh => by have := l7 k e; omega)
      bb := Nat.le_refl _
      a1 := by show g5 ≠ w.heap.size; omega
      a2 := by show g6 ≠ w.heap.size; omega
      a3 := by show g5 ≠ g6; omega
      a4 := fun e => by have := l7 _ e; simp only at this; omega
      a5 := fun e => by have := l7 _ e; simp only at this; omega
      a6 := fun e => by have := l7 _ e; simp only at this; omega
      nil := hnil }
  · exact ((hW.setCell (p := ⟨_, _, none⟩) (Nat.le_refl _) _).setCell (p := ⟨_, _, none⟩) (Nat.le_refl _) _).setCell (p := ⟨_, _, none⟩) (Nat.le_refl _) _
end Go.Proofs.YtdebfnlnpfienaaGreatDoor

/- works; one plate at a place, its steps. -/
namespace Go.Proofs.YtdebfnlnpfienaaGreatDoor
open Go.RowKit Lift
set_option linter.unusedSimpArgs false
set_option linter.unusedVariables false

/-- A plate at a block, its blocks from base on. -/
def Pl (base : Nat) (w : World) (b : Nat) (st : St) : Prop := ∃ F, F.b = b ∧ Raw base w F st
theorem Pl.below {base b : Nat} {w w' : World} {st : St} (h : Pl base w b st) (hb : Below w.heap.size w w') : Pl base w' b st := by
  obtain ⟨F, e, h⟩ := h; exact ⟨F, e, h.below hb⟩
def PlV (base b : Nat) (st : St) (v : Value) (w : World) (e : Ending) (w' : World) : Prop := e = .returned v ∧ Pl base w' b st ∧ Below base w w'
theorem Raw.base_le {base : Nat} {w : World} {F : Fp} {st : St} (h : Raw base w F st) : base ≤ w.heap.size := by
  have := h.bb; have := h.lt.1; omega
theorem PlPost.v {base b : Nat} {F : Fp} {st st' : St} {v : Value} {w : World} {e : Ending} {w' : World} (h : Raw base w F st') (hb : F.b = b) (hp : PlPost base F st v w e w') : PlV base b st v w e w' := by
  obtain ⟨F', he, hR, hb', hf, hk⟩ := hp
  exact ⟨he, ⟨F', hb'.trans hb, hR⟩, hk.below h.base_le h.ge⟩
theorem pl_put {base b : Nat} {w : World} {st : St} (h : Pl base w b st) (x : Int) (s : ByteArray) (hs : s.size ≤ maxTx) (hll : st.lo.length ≤ 1000000000) :
    Calls Tryz.prog 42 #[.pointer (some ⟨b, 0, none⟩), .int .i64 x, .string s] w (PlV base b (putS st x s) (.int .i64 (putE st x s)) w) := by
  obtain ⟨F, rfl, h⟩ := h
  exact (put_any h x s hs hll).mono fun e w' hp => hp.v h rfl
theorem pl_sync {base b : Nat} {w : World} {st : St} (h : Pl base w b st) (hll : st.lo.length ≤ 1000000000) :
    Calls Tryz.prog 43 #[.pointer (some ⟨b, 0, none⟩)] w (PlV base b (syncS st) (.int .i64 (syncE st)) w) := by
  obtain ⟨F, rfl, h⟩ := h
  exact (sync_any h hll).mono fun e w' hp => hp.v h rfl
theorem pl_get {base b : Nat} {w : World} {st : St} (h : Pl base w b st) (x : Int) : Calls Tryz.prog 63 #[.pointer (some ⟨b, 0, none⟩), .int .i64 x] w (fun e w' => e = .returned (getV st x) ∧ w = w') := by
  obtain ⟨F, rfl, h⟩ := h
  exact get_any h x
theorem pl_fuse {base b : Nat} {w : World} {st : St} (h : Pl base w b st) (n : Int) (hn1 : -9223372036854775808 ≤ n) (hn2 : n ≤ 9223372036854775807) :
    Calls Tryz.prog 15 #[.pointer (some ⟨b, 0, none⟩), .int .i64 n] w (PlV base b { st with fu := max n (-1) } (.tuple #[]) w) := by
  obtain ⟨F, rfl, h⟩ := h
  exact (fuse_any h n hn1 hn2).mono fun e w' ⟨he, hR, hk⟩ => ⟨he, ⟨F, rfl, hR⟩, hk.below h.base_le h.ge⟩
theorem pl_crash {base b : Nat} {w : World} {st : St} (h : Pl base w b st) (hll : st.lo.length ≤ 1000000000) (ko : Option Addr) (kcap : Nat) (keep : List Int) (hkl : keep.length ≤ 9223372036854775807) (hap : ∀ F, Raw base w F st → F.b = b → SlAt (Rd.int .i64) (fun k => ¬ foot F k) w ko keep) :
    Calls Tryz.prog 16 #[.pointer (some ⟨b, 0, none⟩), .slice ko keep.length kcap] w (PlV base b (crashS st keep) (.tuple #[]) w) := by
  obtain ⟨F, rfl, h⟩ := h
  exact (crash_any h hll ko kcap keep hkl (hap F h rfl)).mono fun e w' ⟨he, hR, hk⟩ => ⟨he, ⟨_, by rfl, hR⟩, hk.below h.base_le h.ge⟩
/-- A new one. -/
def NewV (st : St) (w : World) (e : Ending) (w' : World) : Prop := ∃ b, e = .returned (.tuple #[.pointer (some ⟨b, 0, none⟩), .int .i64 0]) ∧ Pl w.heap.size w' b st ∧ Below w.heap.size w w'
theorem pl_new (w : World) (x : Int) (n : Nat) (hx : x = (n : Int)) (h1 : 1 ≤ n) (h2 : n ≤ 8192) : Calls Tryz.prog 6 #[.int .i64 x] w (NewV (St.new n) w) := by
  subst hx
  exact (new_any w n h1 h2).mono fun e w' ⟨F, he, hR, hb⟩ => ⟨F.b, he, ⟨F, rfl, hR⟩, hb⟩
/-- A slice that the call made behind the plate. -/
theorem keep_one {base b : Nat} {w : World} {st : St} {x : Int} (h : Pl base w b st) (hx : Wf x) : Pl base (w.alloc (.cells #[.int .i64 x] 3)) b st ∧ ∀ F, Raw base (w.alloc (.cells #[.int .i64 x] 3)) F st → F.b = b → True := ⟨h.below ((Below.refl _ w).alloc (Nat.le_refl _) _), fun _ _ _ => trivial⟩
theorem pl_crash1 {base b : Nat} {w : World} {st : St} (h : Pl base w b st) (hll : st.lo.length ≤ 1000000000) (x : Int) (hx : Wf x) (g : Nat) (hg : g = w.heap.size) :
    Calls Tryz.prog 16 #[.pointer (some ⟨b, 0, none⟩), .slice (some ⟨g, 0, none⟩) 1 1] (w.alloc (.cells #[.int .i64 x] 3)) (PlV base b (crashS st [x]) (.tuple #[]) w) := by
  subst hg
  obtain ⟨F, rfl, h⟩ := h
  have hb0 : Below w.heap.size w (w.alloc (.cells #[.int .i64 x] 3)) := (Below.refl _ w).alloc (Nat.le_refl _) _
  have h2 := h.below hb0
  have hsl : SlAt (Rd.int .i64) (fun k => ¬ foot F k) (w.alloc (.cells #[.int .i64 x] 3)) (some ⟨w.heap.size, 0, none⟩) [x] := by
    refine .inr ⟨w.heap.size, 0, rfl, fun hf => Nat.lt_irrefl _ (h.inb _ hf), by simp, fun k c hk => ⟨[.int .i64 c], ⟨rfl, ?_⟩, fun i v hi => ?_⟩⟩
    · match k, hk with
      | 0, hk => simp at hk; subst hk; exact hx
    · match i, hi with
      | 0, hi =>
        simp at hi; subst hi
        match k, hk with
        | 0, hk => simp at hk; subst hk; simp [go_sem, Rd.int]
  exact (crash_any h2 hll (some ⟨w.heap.size, 0, none⟩) 1 [x] (by simp) hsl).mono fun e w' ⟨he, hR, hk⟩ => ⟨he, ⟨_, by rfl, hR⟩, (hb0.mono h.base_le).trans (hk.below (by have := h.base_le; simp; omega) h2.ge)⟩

/-! ### works -/
def abB : ByteArray := ⟨#[97, 98]⟩
def wS1 : St := putS (St.new 2) 0 abB
def wS2 : St := crashS wS1 [1]
def wS3 : St := { wS2 with fu := max 0 (-1) }
def aSec : List UInt8 := 97 :: List.replicate 63 0
theorem w_e1 : putE (St.new 2) 0 abB = 0 := by decide
theorem w_g : getV wS2 0 = .tuple #[.string ⟨aSec.toArray⟩, .int .i64 0] := by rfl
theorem w_y : syncE wS3 = 12 := by decide
theorem w_o : (syncS wS3).off = true := by decide
theorem w_l : wS1.lo.length ≤ 1000000000 ∧ wS3.lo.length ≤ 1000000000 := by decide
end Go.Proofs.YtdebfnlnpfienaaGreatDoor

/- Calls that came in: how they are read; light. -/
namespace Go.Proofs.YtdebfnlnpfienaaGreatDoor
open Go.RowKit Lift
set_option linter.unusedSimpArgs false
set_option linter.unusedVariables false

structure OpD where
  kind : Int
  at_ : Int
  s : ByteArray
  keep : List Int
abbrev Op4 := Int × Int × ByteArray × List Int
def rOp : Rd Op4 := (Rd.int .i64).pair ((Rd.int .i64).pair (Rd.str.pair (Rd.int .i64).slice))
theorem op_get {S : Nat → Prop} {w : World} {ao : Option Addr} {l : List Op4} (h : SlAt rOp S w ao l) {k : Nat} {c : Op4} (hk : l[k]? = some c) :
    ∃ b off ko kcap, ao = some ⟨b, off, none⟩ ∧ S b ∧ b < w.heap.size ∧ Wf c.1 ∧ Wf c.2.1 ∧ c.2.2.1.size ≤ maxTx ∧ c.2.2.2.length ≤ kcap ∧ kcap ≤ maxLen ∧ SlAt (Rd.int .i64) S w ko c.2.2.2 ∧
      w.cell? ⟨b, off + k * 4, none⟩ = some (.int .i64 c.1) ∧ w.cell? ⟨b, off + k * 4 + 1, none⟩ = some (.int .i64 c.2.1) ∧ w.cell? ⟨b, off + k * 4 + 2, none⟩ = some (.string c.2.2.1) ∧ w.cell? ⟨b, off + k * 4 + 3, none⟩ = some (.slice ko c.2.2.2.length kcap) := by
  obtain ⟨b, off, cs, rfl, hs, hlt, ⟨c1, d1, rfl, ⟨rfl, h1⟩, c2, d2, rfl, ⟨rfl, h2⟩, c3, d3, rfl, ⟨rfl, h3⟩, ⟨ko, kcap, rfl, h4, h5, h6, h7⟩⟩, hc⟩ := h.get hk
  exact ⟨b, off, ko, kcap, rfl, hs, hlt, h1, h2, h3, h4, h5, h7, hc 0 _ rfl, hc 1 _ rfl, hc 2 _ rfl, hc 3 _ rfl⟩
def lightP (l : List Op4) : Prop := l.length ≤ 80 ∧ ∀ c ∈ l, c.2.2.1.size ≤ 300 ∧ c.2.2.2.length ≤ 200
instance (l : List Op4) : Decidable (lightP l) := by unfold lightP; infer_instance
theorem lightP_take {l : List Op4} {k : Nat} {c : Op4} (h : ∀ c ∈ l.take k, c.2.2.1.size ≤ 300 ∧ c.2.2.2.length ≤ 200) (hk : l[k]? = some c) (h2 : c.2.2.1.size ≤ 300 ∧ c.2.2.2.length ≤ 200) : ∀ c ∈ l.take (k + 1), c.2.2.1.size ≤ 300 ∧ c.2.2.2.length ≤ 200 := by
  rw [take_at2 hk]
  intro d hd
  rcases List.mem_append.1 hd with hd | hd
  · exact h d hd
  · simp at hd; subst hd; exact h2
/-! ### Two plates -/
theorem VoidRaw.pl {base : Nat} {F F' : Fp} {st : St} {w : World} {e : Ending} {w' : World} (h : VoidRaw base F F' st w e w') (hb : F'.b = F.b) (hf : ∀ k, foot F' k → foot F k) : PlPost base F st (.tuple #[]) w e w' :=
  ⟨F', h.1, h.2.1, hb, fun k hk => .inl (hf k hk), h.2.2⟩
theorem foot_nil {F : Fp} : ∀ k, foot { F with lv := .slice none 0 0 } k → foot F k := by
  rintro k (rfl | rfl | rfl | hk)
  · exact .inl rfl
  · exact .inr (.inl rfl)
  · exact .inr (.inr (.inl rfl))
  · cases hk
def Two (base : Nat) (w : World) (b1 : Nat) (st1 : St) (b2 : Nat) (st2 : St) : Prop := ∃ F1 F2 : Fp, F1.b = b1 ∧ F2.b = b2 ∧ Raw base w F1 st1 ∧ Raw base w F2 st2 ∧ ∀ k, foot F1 k → ¬ foot F2 k
theorem Two.symm {base : Nat} {w : World} {b1 b2 : Nat} {st1 st2 : St} (h : Two base w b1 st1 b2 st2) : Two base w b2 st2 b1 st1 := by
  obtain ⟨F1, F2, e1, e2, h1, h2, h3⟩ := h
  exact ⟨F2, F1, e2, e1, h2, h1, fun k a b => h3 k b a⟩
theorem Two.one {base : Nat} {w : World} {b1 b2 : Nat} {st1 st2 : St} (h : Two base w b1 st1 b2 st2) : Pl base w b1 st1 := by
  obtain ⟨F1, F2, e1, e2, h1, h2, h3⟩ := h; exact ⟨F1, e1, h1⟩
theorem Two.below {base : Nat} {w w' : World} {b1 b2 : Nat} {st1 st2 : St} (h : Two base w b1 st1 b2 st2) (hb : Below w.heap.size w w') : Two base w' b1 st1 b2 st2 := by
  obtain ⟨F1, F2, e1, e2, h1, h2, h3⟩ := h
  exact ⟨F1, F2, e1, e2, h1.below hb, h2.below hb, h3⟩
def TwoV (base b1 : Nat) (st1 : St) (b2 : Nat) (st2 : St) (v : Value) (w : World) (e : Ending) (w' : World) : Prop := e = .returned v ∧ Two base w' b1 st1 b2 st2 ∧ Below base w w'
theorem Two.step {base : Nat} {w : World} {b1 b2 : Nat} {st1 st1' st2 : St} {f : FuncId} {args : Array Value} {v : Value} (h : Two base w b1 st1 b2 st2) (hc : ∀ F, Raw base w F st1 → F.b = b1 → Calls Tryz.prog f args w (PlPost base F st1' v w)) :
    Calls Tryz.prog f args w (TwoV base b1 st1' b2 st2 v w) := by
  obtain ⟨F1, F2, e1, e2, h1, h2, h3⟩ := h
  refine (hc F1 h1 e1).mono ?_
  rintro e w' ⟨F', he, hR, hb, hf, hk⟩
  refine ⟨he, ⟨F', F2, hb.trans e1, e2, hR, h2.kept hk (fun k a b => h3 k b a), fun k a b => ?_⟩, hk.below h1.base_le h1.ge⟩
  rcases hf k a with h | h
  · exact h3 k h b
  · have := h2.inb k b; omega
theorem two_put {base b1 b2 : Nat} {w : World} {st1 st2 : St} (h : Two base w b1 st1 b2 st2) (x : Int) (s : ByteArray) (hs : s.size ≤ maxTx) (hll : st1.lo.length ≤ 1000000000) :
    Calls Tryz.prog 42 #[.pointer (some ⟨b1, 0, none⟩), .int .i64 x, .string s] w (TwoV base b1 (putS st1 x s) b2 st2 (.int .i64 (putE st1 x s)) w) :=
  h.step fun F hF e => by subst e; exact put_any hF x s hs hll
theorem two_sync {base b1 b2 : Nat} {w : World} {st1 st2 : St} (h : Two base w b1 st1 b2 st2) (hll : st1.lo.length ≤ 1000000000) :
    Calls Tryz.prog 43 #[.pointer (some ⟨b1, 0, none⟩)] w (TwoV base b1 (syncS st1) b2 st2 (.int .i64 (syncE st1)) w) :=
  h.step fun F hF e => by subst e; exact sync_any hF hll
theorem two_fuse {base b1 b2 : Nat} {w : World} {st1 st2 : St} (h : Two base w b1 st1 b2 st2) (n : Int) (hn : Wf n) :
    Calls Tryz.prog 15 #[.pointer (some ⟨b1, 0, none⟩), .int .i64 n] w (TwoV base b1 { st1 with fu := max n (-1) } b2 st2 (.tuple #[]) w) :=
  h.step fun F hF e => by
    subst e
    have := int_i64 hn
    exact (fuse_any hF n this.1 this.2).mono fun e w' h => h.pl rfl (fun k h => h)
theorem two_crash {base b1 b2 : Nat} {w : World} {st1 st2 : St} (h : Two base w b1 st1 b2 st2) (hll : st1.lo.length ≤ 1000000000) (ko : Option Addr) (kcap : Nat) (keep : List Int) (hkl : keep.length ≤ 9223372036854775807) (S : Nat → Prop) (hk : SlAt (Rd.int .i64) S w ko keep)
    (hS : ∀ F, Raw base w F st1 → F.b = b1 → ∀ k, S k → ¬ foot F k) :
    Calls Tryz.prog 16 #[.pointer (some ⟨b1, 0, none⟩), .slice ko keep.length kcap] w (TwoV base b1 (crashS st1 keep) b2 st2 (.tuple #[]) w) :=
  h.step fun F hF e => by
    have hk2 : SlAt (Rd.int .i64) (fun b => ¬ foot F b) w ko keep := hk.mono (fun k hk _ => hS F hF e k hk)
    subst e
    exact (crash_any hF hll ko kcap keep hkl hk2).mono fun e w' h => h.pl rfl foot_nil
end Go.Proofs.YtdebfnlnpfienaaGreatDoor

/- PlateTorn, walked. -/
namespace Go.Proofs.YtdebfnlnpfienaaGreatDoor
open Go.RowKit Lift
set_option linter.unusedSimpArgs false
set_option linter.unusedVariables false

theorem pad_get (s : ByteArray) (i : Nat) (h : s.size ≤ 64) (hi : i < 64) : (pad s).getD i 0 = if h : i < s.size then s[i] else 0 := by
  unfold pad
  rw [List.getD_eq_getElem?_getD]
  by_cases h1 : i < s.size
  · rw [List.getElem?_append_left (by simpa using h1), dif_pos h1]
    rw [List.getElem?_eq_getElem (by simpa using h1)]
    rfl
  · rw [List.getElem?_append_right (by simp; omega), dif_neg h1, List.getElem?_replicate]
    split <;> rfl
def nb (s : ByteArray) (i : Nat) : UInt8 := (pad s).getD i 0
/-! ### What the calls compute -/
def tS1 (o : ByteArray) : St := { su := [zer, zer, zer], no := [zer, pad o, zer], lo := [(1, pad o)], fu := -1, off := false }
def tS2 (o : ByteArray) : St := { su := [zer, pad o, zer], no := [zer, pad o, zer], lo := [], fu := -1, off := false }
def tS3 (o s : ByteArray) : St := { su := [zer, pad o, zer], no := [zer, pad s, zer], lo := [(1, pad s)], fu := -1, off := false }
def tX (o s : ByteArray) (k : Int) : List UInt8 := tear (pad o) (pad s) (kOf [k] 0)
theorem t_1 (o : ByteArray) (h : o.size ≤ 64) : putS (St.new 3) 1 o = tS1 o ∧ putE (St.new 3) 1 o = 0 := by
  have h2 : ¬ 64 < o.size := by omega
  have h0 : thereE (St.new 3) 1 = 0 := by decide
  have h3 : burnE (St.new 3) = 0 := by decide
  have h4 : burnS (St.new 3) = St.new 3 := by rfl
  unfold putS putE
  simp only [h0, h2, h3, h4, if_true, if_false]
  exact ⟨rfl, trivial⟩
theorem t_2 (o : ByteArray) : syncS (tS1 o) = tS2 o ∧ syncE (tS1 o) = 0 := ⟨rfl, rfl⟩
theorem t_3 (o s : ByteArray) (h : s.size ≤ 64) : putS (tS2 o) 1 s = tS3 o s ∧ putE (tS2 o) 1 s = 0 := by
  have h2 : ¬ 64 < s.size := by omega
  have h0 : thereE (tS2 o) 1 = 0 := by rfl
  have h3 : burnE (tS2 o) = 0 := by rfl
  have h4 : burnS (tS2 o) = tS2 o := by rfl
  unfold putS putE
  simp only [h0, h2, h3, h4, if_true, if_false]
  exact ⟨rfl, trivial⟩
theorem t_4 (o s : ByteArray) (k : Int) : getV (crashS (tS3 o s) [k]) 1 = .tuple #[.string ⟨(tX o s k).toArray⟩, .int .i64 0] := by rfl

/-- What the law looks at: bytes that are partly of one text, partly of the other. -/
def Parts (x N O : Nat → UInt8) : Prop := (∃ k, k ≤ 64 ∧ (∀ i, i < k → x i = N i) ∧ ∀ i, k ≤ i → i < 64 → x i = O i) ∨ (∃ f, f ≤ 64 ∧ (∀ i, i < f → x i = O i) ∧ ∀ i, f ≤ i → i < 64 → x i = N i)
theorem t_parts (o s : ByteArray) (k : Int) (ho : o.size ≤ 64) (hs : s.size ≤ 64) : (tX o s k).length = 64 ∧ Parts (fun i => (tX o s k).getD i 0) (nb s) (nb o) := by
  have h1 := pad_len ho
  have h2 := pad_len hs
  have hk := kOf_le [k] 0
  unfold tX
  generalize kOf [k] 0 = kk at hk
  refine ⟨tear_len h1 h2, ?_⟩
  unfold tear
  split
  · refine .inl ⟨kk, by omega, fun i hi => ?_, fun i hi hi2 => ?_⟩
    · simp only [nb, List.getD_eq_getElem?_getD]
      rw [List.getElem?_append_left (by simp; omega), List.getElem?_take_of_lt hi]
    · simp only [nb, List.getD_eq_getElem?_getD]
      rw [List.getElem?_append_right (by simp; omega), List.getElem?_drop]
      rw [List.length_take, h2, show kk + (i - min kk 64) = i by omega]
  · refine .inr ⟨128 - kk, by omega, fun i hi => ?_, fun i hi hi2 => ?_⟩
    · simp only [nb, List.getD_eq_getElem?_getD]
      rw [List.getElem?_append_left (by simp; omega), List.getElem?_take_of_lt hi]
    · simp only [nb, List.getD_eq_getElem?_getD]
      rw [List.getElem?_append_right (by simp; omega), List.getElem?_drop]
      rw [List.length_take, h1, show 128 - kk + (i - min (128 - kk) 64) = i by omega]

theorem torn_end {x N O : Nat → UInt8} (h : Parts x N O) {f l : Nat} (hf : f ≤ 64) (hl : l ≤ 64) (h1 : f < 64 → x f ≠ N f) (h2 : l < 64 → x (63 - l) ≠ N (63 - l)) :
    (∀ i, f ≤ i → i < 64 → x i = O i) ∨ ∀ i, i < 64 - l → x i = O i := by
  rcases h with ⟨k, hk, ha, hb⟩ | ⟨k, hk, ha, hb⟩
  · left
    intro i hi hi2
    refine hb i ?_ hi2
    apply Nat.le_of_not_lt
    intro hlt
    exact h1 (by omega) (ha f (by omega))
  · right
    intro i hi
    refine ha i ?_
    apply Nat.lt_of_not_le
    intro hle
    exact h2 (by omega) (hb (63 - l) (by omega) (by omega))
theorem u8_eq {a b : UInt8} : ((a.toNat : Int) == (b.toNat : Int)) = decide (a = b) := by
  rw [Bool.eq_iff_iff]; simp [UInt8.toNat_inj, Int.ofNat_inj]
theorem u8_ne {a b : UInt8} : ((a.toNat : Int) != (b.toNat : Int)) = decide (a ≠ b) := by
  rw [Bool.eq_iff_iff]; simp [UInt8.toNat_inj, Int.ofNat_inj]
theorem get_bytes (d : List UInt8) (i : Nat) (h : i < (⟨d.toArray⟩ : ByteArray).size) : (⟨d.toArray⟩ : ByteArray)[i] = d.getD i 0 := by
  have : i < d.length := h
  simp [List.getD_eq_getElem?_getD, this]
  rfl
theorem torn_put1 {base b : Nat} {w : World} {o : ByteArray} (ho : o.size ≤ 64) (h : Pl base w b (St.new 3)) : Calls Tryz.prog 42 #[.pointer (some ⟨b, 0, none⟩), .int .i64 1, .string o] w (PlV base b (tS1 o) (.int .i64 0) w) := by
  have := pl_put h 1 o (by unfold maxTx; omega) (by decide)
  rwa [(t_1 o ho).1, (t_1 o ho).2] at this
theorem torn_sync {base b : Nat} {w : World} {o : ByteArray} (h : Pl base w b (tS1 o)) : Calls Tryz.prog 43 #[.pointer (some ⟨b, 0, none⟩)] w (PlV base b (tS2 o) (.int .i64 0) w) := by
  have := pl_sync h (by simp [tS1])
  rwa [(t_2 o).1, (t_2 o).2] at this
theorem torn_put2 {base b : Nat} {w : World} {o s : ByteArray} (hs : s.size ≤ 64) (h : Pl base w b (tS2 o)) : Calls Tryz.prog 42 #[.pointer (some ⟨b, 0, none⟩), .int .i64 1, .string s] w (PlV base b (tS3 o s) (.int .i64 0) w) := by
  have := pl_put h 1 s (by unfold maxTx; omega) (by simp [tS2])
  rwa [(t_3 o s hs).1, (t_3 o s hs).2] at this
theorem torn_get {base b : Nat} {w : World} {o s : ByteArray} {k : Int} {v : Value} (hv : getV (crashS (tS3 o s) [k]) 1 = v) (h : Pl base w b (crashS (tS3 o s) [k])) : Calls Tryz.prog 63 #[.pointer (some ⟨b, 0, none⟩), .int .i64 1] w (fun e w' => e = .returned v ∧ w = w') := by
  have := pl_get h 1
  rwa [hv] at this
def Inv3 (d : List UInt8) (o : ByteArray) (f l : Nat) (p q : Bool) : Prop := ((∀ i, f ≤ i → i < 64 → d.getD i 0 = nb o i) → p = true) ∧ ((∀ i, i < l → d.getD i 0 = nb o i) → q = true)
theorem inv3_step {d : List UInt8} {o : ByteArray} {f l i : Nat} {p q : Bool} (h : Inv3 d o f l p q) (hi : i < 64) :
    Inv3 d o f l (if decide (f ≤ i) && decide (d.getD i 0 ≠ nb o i) then false else p) (if decide (i < l) && decide (d.getD i 0 ≠ nb o i) then false else q) := by
  refine ⟨fun hA => ?_, fun hB => ?_⟩
  · rw [if_neg ?_]
    · exact h.1 hA
    · simp only [Bool.and_eq_true, decide_eq_true_eq, not_and]
      intro h1 h2
      exact h2 (hA i h1 hi)
  · rw [if_neg ?_]
    · exact h.2 hB
    · simp only [Bool.and_eq_true, decide_eq_true_eq, not_and]
      intro h1 h2
      exact h2 (hB i h1)
theorem inv3_end {d : List UInt8} {o : ByteArray} {f l : Nat} {p q : Bool} (h : Inv3 d o f l p q) (he : (∀ i, f ≤ i → i < 64 → d.getD i 0 = nb o i) ∨ ∀ i, i < l → d.getD i 0 = nb o i) : (p || q) = true := by
  rcases he with he | he
  · rw [h.1 he]; rfl
  · rw [h.2 he]; simp
end Go.Proofs.YtdebfnlnpfienaaGreatDoor

/- The plate's plain laws: what is there is what was sure, with the loose writes put in order. -/
namespace Go.Proofs.YtdebfnlnpfienaaGreatDoor
open Go.RowKit Lift
set_option linter.unusedSimpArgs false
set_option linter.unusedVariables false

def setAll (lo : List Wr) (su : Secs) : Secs := lo.foldl (fun s x => s.set x.1 x.2) su
theorem setAll_len : ∀ (lo : List Wr) (su : Secs), (setAll lo su).length = su.length
  | [], su => rfl
  | x :: r, su => by unfold setAll; rw [List.foldl_cons]; exact (setAll_len r _).trans (by simp)
theorem setAll_snoc (lo : List Wr) (x : Wr) (su : Secs) : setAll (lo ++ [x]) su = (setAll lo su).set x.1 x.2 := by simp [setAll]
theorem setAll_out : ∀ (lo : List Wr) (su : Secs) (i : Nat), (∀ x ∈ lo, x.1 ≠ i) → (setAll lo su)[i]? = su[i]?
  | [], su, i, _ => rfl
  | x :: r, su, i, h => by
    unfold setAll
    rw [List.foldl_cons]
    refine (setAll_out r _ i (fun y hy => h y (List.mem_cons_of_mem _ hy))).trans ?_
    rw [List.getElem?_set_ne (h x (by simp))]
theorem settL_out (a : Secs) : ∀ (lo : List Wr) (b : Secs) (i : Nat), (∀ x ∈ lo, x.1 ≠ i) → (settL a lo b)[i]? = b[i]?
  | [], b, i, _ => rfl
  | x :: r, b, i, h => by
    unfold settL
    rw [List.foldl_cons]
    refine (settL_out a r _ i (fun y hy => h y (List.mem_cons_of_mem _ hy))).trans ?_
    rw [List.getElem?_set_ne (h x (by simp))]
theorem settL_in (a : Secs) : ∀ (lo : List Wr) (b : Secs) (i : Nat), i < b.length → ((∃ x ∈ lo, x.1 = i) ∨ b[i]? = some (a.getD i [])) → (settL a lo b)[i]? = some (a.getD i [])
  | [], b, i, hi, h => by
    rcases h with ⟨x, hx, _⟩ | h
    · cases hx
    · exact h
  | x :: r, b, i, hi, h => by
    unfold settL
    rw [List.foldl_cons]
    refine settL_in a r _ i (by simpa using hi) ?_
    by_cases e : x.1 = i
    · right; rw [← e, List.getElem?_set_self (by omega)]
    · rcases h with ⟨y, hy, e2⟩ | h
      · rcases List.mem_cons.1 hy with rfl | hy
        · exact absurd e2 e
        · exact .inl ⟨y, hy, e2⟩
      · right; rw [List.getElem?_set_ne e]; exact h
/-- Two that agree wherever nothing is loose. -/
theorem settL_same {a b : Secs} {lo : List Wr} (hl : a.length = b.length) (h : ∀ i, (∀ x ∈ lo, x.1 ≠ i) → a[i]? = b[i]?) : settL a lo b = a := by
  apply List.ext_getElem?
  intro i
  by_cases hi : ∃ x ∈ lo, x.1 = i
  · by_cases hb : i < b.length
    · rw [settL_in a lo b i hb (.inl hi), List.getElem?_eq_getElem (by omega)]
      simp [List.getD_eq_getElem?_getD, hl, hb]
    · rw [List.getElem?_eq_none (by rw [settL_len]; omega), List.getElem?_eq_none (by omega)]
  · have hi2 : ∀ x ∈ lo, x.1 ≠ i := fun x hx e => hi ⟨x, hx, e⟩
    rw [settL_out a lo b i hi2, h i hi2]
theorem tearL_out (keep : List Int) : ∀ (lo : List Wr) (j : Nat) (b : Secs) (i : Nat), (∀ x ∈ lo, x.1 ≠ i) → (tearL keep j lo b)[i]? = b[i]?
  | [], j, b, i, _ => rfl
  | x :: r, j, b, i, h => by
    unfold tearL
    refine (tearL_out keep r _ _ i (fun y hy => h y (List.mem_cons_of_mem _ hy))).trans ?_
    rw [List.getElem?_set_ne (h x (by simp))]
theorem tearL_all {keep : List Int} : ∀ (lo : List Wr) (j : Nat) (b : Secs), (∀ i, j ≤ i → i < j + lo.length → kOf keep i = 64) → (∀ d ∈ b, d.length = 64) → (∀ x ∈ lo, x.2.length = 64) → tearL keep j lo b = setAll lo b
  | [], j, b, _, _, _ => rfl
  | x :: r, j, b, hk, hb, hx => by
    unfold tearL setAll
    rw [List.foldl_cons]
    have h64 := hx x (by simp)
    have hold : (b.getD x.1 []).length ≤ 64 := by
      rw [List.getD_eq_getElem?_getD]
      cases h : b[x.1]? with
      | none => simp
      | some d => simpa using Nat.le_of_eq (hb d (List.mem_of_getElem? h))
    have ht : tear (b.getD x.1 []) x.2 (kOf keep j) = x.2 := by
      rw [hk j (Nat.le_refl _) (by simp)]
      unfold tear
      rw [if_pos (Nat.le_refl _), List.take_of_length_le (Nat.le_of_eq h64), List.drop_of_length_le hold, List.append_nil]
    rw [ht]
    refine tearL_all r (j + 1) _ (fun i h1 h2 => hk i (by omega) (by simp only [List.length_cons]; omega)) (fun d hd => ?_) (fun y hy => hx y (List.mem_cons_of_mem _ hy))
    rcases List.mem_or_eq_of_mem_set hd with hd | rfl
    · exact hb d hd
    · exact h64
structure Good (st : St) : Prop where
  su64 : ∀ d ∈ st.su, d.length = 64
  lo64 : ∀ x ∈ st.lo, x.2.length = 64
  eq : st.no = setAll st.lo st.su
theorem Good.len {st : St} (h : Good st) : st.su.length = st.no.length := by rw [h.eq, setAll_len]
theorem Good.new (n : Nat) : Good (St.new n) := ⟨by intro d hd; rw [List.eq_of_mem_replicate hd]; exact zer_len, by simp [St.new], rfl⟩
theorem Good.burn {st : St} (h : Good st) : Good (burnS st) := by
  refine ⟨?_, ?_, ?_⟩
  · rw [burnS_same.1]; exact h.su64
  · rw [burnS_same.2.2]; exact h.lo64
  · rw [burnS_same.1, burnS_same.2.1, burnS_same.2.2]; exact h.eq
theorem Good.put {st : St} (h : Good st) (x : Int) (s : ByteArray) : Good (putS st x s) := by
  unfold putS
  split
  · split
    · exact h
    · rename_i hs
      split
      · have hb := h.burn
        refine ⟨hb.su64, fun y hy => ?_, ?_⟩
        · rcases List.mem_append.1 hy with hy | hy
          · exact hb.lo64 y hy
          · simp at hy; subst hy; exact pad_len (by omega)
        · show (burnS st).no.set x.toNat (pad s) = setAll ((burnS st).lo ++ [(x.toNat, pad s)]) (burnS st).su
          rw [setAll_snoc, ← hb.eq]
      · exact h.burn
  · exact h
theorem Good.settle {st : St} (h : Good st) : settL st.no st.lo st.su = st.no :=
  settL_same h.len.symm (fun i hi => by rw [h.eq, setAll_out _ _ _ hi])
theorem Good.back {st : St} (h : Good st) : settL st.su st.lo st.no = st.su :=
  settL_same h.len (fun i hi => by rw [h.eq, setAll_out _ _ _ hi])
theorem Good.crash {st : St} (h : Good st) (keep : List Int) : crashS st keep = { su := tearL keep 0 st.lo st.su, no := tearL keep 0 st.lo st.su, lo := [], fu := -1, off := false } := by
  have e : settL (tearL keep 0 st.lo st.su) st.lo st.su = tearL keep 0 st.lo st.su := settL_same (tearL_len _ _ _ _) (fun i hi => tearL_out keep _ _ _ _ hi)
  unfold crashS
  simp only [h.back, e]
theorem no64 {lo : List Wr} : ∀ {su : Secs}, (∀ d ∈ su, d.length = 64) → (∀ x ∈ lo, x.2.length = 64) → ∀ d ∈ setAll lo su, d.length = 64 := by
  induction lo with
  | nil => exact fun h _ => h
  | cons x r ih =>
    intro su h hx
    unfold setAll
    rw [List.foldl_cons]
    refine ih (fun d hd => ?_) (fun y hy => hx y (List.mem_cons_of_mem _ hy))
    rcases List.mem_or_eq_of_mem_set hd with hd | rfl
    · exact h d hd
    · exact hx x (by simp)
theorem Good.n64 {st : St} (h : Good st) : ∀ d ∈ st.no, d.length = 64 := by rw [h.eq]; exact no64 h.su64 h.lo64
/-- Where a sector lies in the image. -/
theorem flat_at : ∀ {l : Secs} {n : Nat} {d : List UInt8}, (∀ d ∈ l, d.length = 64) → l[n]? = some d → (l.flatten.drop (64 * n)).take 64 = d
  | x :: r, 0, d, h, hn => by
    simp at hn; subst hn
    have := h x (by simp)
    simp [this]

  | x :: r, n + 1, d, h, hn => by
    have hx := h x (by simp)
    rw [List.flatten_cons, show 64 * (n + 1) = x.length + 64 * n by omega, List.drop_append, Nat.add_sub_cancel_left, List.drop_of_length_le (by omega), List.nil_append]
    exact flat_at (fun d hd => h d (List.mem_cons_of_mem _ hd)) (by simpa using hn)
theorem flat_len : ∀ {l : Secs}, (∀ d ∈ l, d.length = 64) → l.flatten.length = 64 * l.length
  | [], _ => rfl
  | x :: r, h => by
    rw [List.flatten_cons, List.length_append, h x (by simp), flat_len (fun d hd => h d (List.mem_cons_of_mem _ hd)), List.length_cons]; omega
end Go.Proofs.YtdebfnlnpfienaaGreatDoor
