/- The reference's plate: its state, Size, step, Fuse, Put. -/
import Derived.Test.YtaljgcdjkmpljaaDoorPlRef1
namespace Go.Proofs.YtaljgcdjkmpljaaDoor
open Go.RowKit Lift
set_option linter.unusedSimpArgs false
set_option linter.unusedVariables false

theorem flat_get : ∀ {l : Secs} (q r : Nat), (∀ d ∈ l, d.length = 64) → r < 64 → l.flatten[64 * q + r]? = (l[q]?).bind (fun d => d[r]?)
  | [], q, r, _, _ => by simp
  | x :: t, 0, r, h, hr => by
    have hx := h x (by simp)
    rw [List.flatten_cons, List.getElem?_append_left (by omega)]
    simp
  | x :: t, q + 1, r, h, hr => by
    have hx := h x (by simp)
    rw [List.flatten_cons, List.getElem?_append_right (by omega), show 64 * (q + 1) + r - x.length = 64 * q + r by omega, flat_get q r (fun d hd => h d (List.mem_cons_of_mem _ hd)) hr]
    simp
def spl (y : List UInt8) (s : ByteArray) (f k : Nat) : List UInt8 := y.take f ++ ((pad s).drop f).take k ++ y.drop (f + k)
theorem spl_len {y : List UInt8} {s : ByteArray} {f k : Nat} (hy : y.length = 64) (hs : s.size ≤ 64) (hk : f + k ≤ 64) : (spl y s f k).length = 64 := by
  have := pad_len hs
  simp [spl]; omega
theorem spl_get {y : List UInt8} {s : ByteArray} {f k : Nat} (hy : y.length = 64) (hs : s.size ≤ 64) (hk : f + k ≤ 64) (r : Nat) (hr : r < 64) : (spl y s f k)[r]? = if f ≤ r ∧ r < f + k then some (nb s r) else y[r]? := by
  have hp := pad_len hs
  unfold spl
  by_cases h1 : r < f
  · rw [if_neg (by omega), List.append_assoc, List.getElem?_append_left (by simp; omega), List.getElem?_take_of_lt h1]
  · by_cases h2 : r < f + k
    · rw [if_pos ⟨by omega, h2⟩, List.append_assoc, List.getElem?_append_right (by simp; omega), List.getElem?_append_left (by simp; omega)]
      rw [List.getElem?_take_of_lt (by simp; omega), List.getElem?_drop]
      rw [show f + (r - (List.take f y).length) = r by simp; omega]
      unfold nb
      rw [List.getD_eq_getElem?_getD, List.getElem?_eq_getElem (by omega)]
      rfl
    · rw [if_neg (by omega), List.getElem?_append_right (by simp; omega), List.getElem?_drop]
      congr 1
      simp; omega
theorem putB_flat {l : Secs} {a f k : Nat} {s : ByteArray} {y : List UInt8} (h64 : ∀ d ∈ l, d.length = 64) (hy : l[a]? = some y) (hk : f + k ≤ 64) (hs : s.size ≤ 64) :
    putB l.flatten (64 * a) s f k = (l.set a (spl y s f k)).flatten := by
  have hal := (List.getElem?_eq_some_iff.1 hy).1
  have hyl := h64 y (List.mem_of_getElem? hy)
  have h64b : ∀ d ∈ l.set a (spl y s f k), d.length = 64 := fun d hd => by
    rcases List.mem_or_eq_of_mem_set hd with hd | rfl
    · exact h64 d hd
    · exact spl_len hyl hs hk
  apply List.ext_getElem?
  intro i
  obtain ⟨q, r, hr, rfl⟩ : ∃ q r, r < 64 ∧ i = 64 * q + r := ⟨i / 64, i % 64, Nat.mod_lt _ (by omega), by omega⟩
  rw [putB_get, flat_get q r h64b hr, flat_get q r h64 hr, flat_len h64]
  by_cases hq : a = q
  · subst hq
    rw [List.getElem?_set_self hal, hy]
    simp only [Option.bind_some]
    rw [spl_get hyl hs hk r hr]
    by_cases h1 : f ≤ r ∧ r < f + k
    · rw [if_pos ⟨by omega, by omega, by omega⟩, if_pos h1, show 64 * a + r - 64 * a = r by omega]
    · rw [if_neg (by omega), if_neg h1]
  · rw [List.getElem?_set_ne hq, if_neg (by omega)]

abbrev RLo := Int × ByteArray
def rRLo : Rd RLo := (Rd.int .i64).pair Rd.str
theorem rlo_flat : Flat rRLo := by
  rintro S S' w w' cs c ⟨c1, c2, rfl, h1, h2⟩
  exact ⟨c1, c2, rfl, h1, h2⟩
theorem rlo_rel (S : Nat → Prop) (w : World) (c : RLo) (h1 : Wf c.1) (h2 : c.2.size ≤ maxTx) : rRLo.rel S w [.int .i64 c.1, .string c.2] c := ⟨[_], [_], rfl, ⟨rfl, h1⟩, ⟨rfl, h2⟩⟩
/-- Where it lies. -/
structure RF where
  b : Nat
  g : Nat
  cap : Nat
  lv : Value
structure RSt where
  su : Secs
  L : List RLo
  fz : Bool
  n : Int
  off : Bool
def rfCells (R : RF) (rs : RSt) : Array Value := #[.slice (some ⟨R.g, 0, none⟩) (64 * rs.su.length) R.cap, R.lv, .bool rs.fz, .int .i64 rs.n, .bool rs.off]
def rfoot (R : RF) (k : Nat) : Prop := k = R.b ∨ k = R.g ∨ some k = R.lv.ownBlock
structure RRaw (base : Nat) (w : World) (R : RF) (rs : RSt) : Prop where
  n1 : 1 ≤ rs.su.length
  n2 : rs.su.length ≤ 8192
  s64 : ∀ d ∈ rs.su, d.length = 64
  nw : Wf rs.n
  lat : ∀ x ∈ rs.L, 0 ≤ x.1 ∧ x.1 < rs.su.length ∧ x.2.size ≤ 64
  blk : w.heap[R.b]? = some (.cells (rfCells R rs) 67 (0, 0))
  own1 : Bytes w R.g rs.su.flatten
  gb : base ≤ R.g
  gl : R.g < w.heap.size
  hcap : 64 * rs.su.length ≤ R.cap
  hcm : R.cap ≤ maxLen
  own2 : Own rRLo (fun _ => True) w base 94 R.lv rs.L
  bb : base ≤ R.b
  a1 : R.g ≠ R.b
  a2 : R.lv.ownBlock ≠ some R.b
  a3 : R.lv.ownBlock ≠ some R.g
theorem RRaw.lt {base : Nat} {w : World} {R : RF} {rs : RSt} (h : RRaw base w R rs) : R.b < w.heap.size ∧ R.g < w.heap.size ∧ ∀ k, R.lv.ownBlock = some k → k < w.heap.size :=
  ⟨(Array.getElem?_eq_some_iff.1 h.blk).1, h.gl, fun k hk => (h.own2.lt _ hk).2⟩
theorem RRaw.ge {base : Nat} {w : World} {R : RF} {rs : RSt} (h : RRaw base w R rs) : ∀ k, rfoot R k → base ≤ k := by
  rintro k (rfl | rfl | hk)
  · exact h.bb
  · exact h.gb
  · exact (h.own2.lt _ hk.symm).1
theorem RRaw.inb {base : Nat} {w : World} {R : RF} {rs : RSt} (h : RRaw base w R rs) : ∀ k, rfoot R k → k < w.heap.size := by
  obtain ⟨h1, h2, h3⟩ := h.lt
  rintro k (rfl | rfl | hk)
  · exact h1
  · exact h2
  · exact h3 k hk.symm
theorem RRaw.kept {base : Nat} {w w' : World} {R : RF} {rs : RSt} {X : Nat → Prop} (h : RRaw base w R rs) (hk : Kept X w w') (hx : ∀ k, rfoot R k → ¬ X k) : RRaw base w' R rs :=
  { h with
    blk := (hk.block R.b h.lt.1 (hx _ (.inl rfl))).trans h.blk
    own1 := h.own1.kept hk h.gl (hx _ (.inr (.inl rfl)))
    gl := Nat.lt_of_lt_of_le h.gl hk.size
    own2 := h.own2.flat rlo_flat hk (fun k e => hx k (.inr (.inr e.symm))) }
theorem RRaw.below {base : Nat} {w w' : World} {R : RF} {rs : RSt} (h : RRaw base w R rs) (hb : Below w.heap.size w w') : RRaw base w' R rs :=
  h.kept (Kept.of_below hb (fun _ => False)) (fun _ _ h => h)
theorem RRaw.cells {base : Nat} {w : World} {R : RF} {rs : RSt} (h : RRaw base w R rs) :
    w.cell? ⟨R.b, 0, none⟩ = some (.slice (some ⟨R.g, 0, none⟩) (64 * rs.su.length) R.cap) ∧ w.cell? ⟨R.b, 1, none⟩ = some R.lv ∧ w.cell? ⟨R.b, 2, none⟩ = some (.bool rs.fz) ∧
    w.cell? ⟨R.b, 3, none⟩ = some (.int .i64 rs.n) ∧ w.cell? ⟨R.b, 4, none⟩ = some (.bool rs.off) :=
  ⟨cell_of_row w _ _ _ _ _ h.blk, cell_of_row w _ _ _ _ _ h.blk, cell_of_row w _ _ _ _ _ h.blk, cell_of_row w _ _ _ _ _ h.blk, cell_of_row w _ _ _ _ _ h.blk⟩
theorem RRaw.free {base : Nat} {w : World} {R : RF} {rs : RSt} (h : RRaw base w R rs) (i : Nat) : w.frozen? ⟨R.b, i, none⟩ = false := frozen_of_row w _ _ _ _ h.blk
theorem RRaw.base_le {base : Nat} {w : World} {R : RF} {rs : RSt} (h : RRaw base w R rs) : base ≤ w.heap.size := by
  have := h.bb; have := h.lt.1; omega
/-- Cells 2, 3, 4 of the block. -/
theorem RRaw.setC {base : Nat} {w : World} {R : RF} {rs rs' : RSt} (h : RRaw base w R rs) (i : Nat) (v : Value) (hi : (rfCells R rs).setIfInBounds i v = rfCells R rs') (hsu : rs'.su = rs.su) (hL : rs'.L = rs.L) (hn : Wf rs'.n) : RRaw base (w.setCell ⟨R.b, i, none⟩ v) R rs' := by
  have hk := Kept.setCell (X := fun k => k = R.b) w (p := ⟨R.b, i, none⟩) rfl v
  exact {
    n1 := by rw [hsu]; exact h.n1
    n2 := by rw [hsu]; exact h.n2
    s64 := by rw [hsu]; exact h.s64
    nw := hn
    lat := by rw [hsu, hL]; exact h.lat
    blk := by rw [heap_setCell_same w _ i _ _ _ h.blk, hi]
    own1 := by rw [hsu]; exact h.own1.kept hk h.gl h.a1
    gb := h.gb
    gl := by simpa using h.gl
    hcap := by rw [hsu]; exact h.hcap
    hcm := h.hcm
    own2 := by rw [hL]; exact h.own2.flat rlo_flat hk (fun k e hh => by subst hh; exact h.a2 e)
    bb := h.bb
    a1 := h.a1
    a2 := h.a2
    a3 := h.a3 }
/-- What a step of it leaves. -/
def RfPost (base : Nat) (R : RF) (rs : RSt) (v : Value) (w : World) (e : Ending) (w' : World) : Prop :=
  ∃ R', e = .returned v ∧ RRaw base w' R' rs ∧ R'.b = R.b ∧ (∀ k, rfoot R' k → rfoot R k ∨ w.heap.size ≤ k) ∧ Kept (rfoot R) w w'
theorem RfPost.same {base : Nat} {R : RF} {rs : RSt} {v : Value} {w w' : World} {e : Ending} (he : e = .returned v) (h : RRaw base w' R rs) (hk : Kept (rfoot R) w w') : RfPost base R rs v w e w' :=
  ⟨R, he, h, rfl, fun k h => .inl h, hk⟩
set_option maxHeartbeats 1000000 in
set_option maxRecDepth 100000 in
theorem size_ref {base : Nat} {w : World} {R : RF} {rs : RSt} (h : RRaw base w R rs) : Calls Tryd.prog 53 #[.pointer (some ⟨R.b, 0, none⟩)] w (IntPost .i64 rs.su.length w) := by
  have c0 := h.cells.1
  have hn2 := h.n2
  clear h
  have hq : ((64 * rs.su.length : Nat) : Int) / 64 = (rs.su.length : Int) := by omega
  have hq2 : (64 * (rs.su.length : Int)) / 64 = (rs.su.length : Int) := by omega
  go_enter Tryd.func53, Tryd.ntmps53
  go_wp2_with fail
  go_ret
  exact ⟨ret_int (by first | rfl | omega), rfl⟩
def stepS (rs : RSt) : RSt := if rs.fz then (if rs.n = 0 then { rs with off := true } else { rs with n := rs.n - 1 }) else rs
def stepE (rs : RSt) : Int := if rs.fz then (if rs.n = 0 then 12 else 0) else 0
set_option maxHeartbeats 1000000 in
set_option maxRecDepth 100000 in
theorem step_ref {base : Nat} {w : World} {R : RF} {rs : RSt} (h : RRaw base w R rs) (hn : rs.fz = true → 0 ≤ rs.n) : Calls Tryd.prog 54 #[.pointer (some ⟨R.b, 0, none⟩)] w (RfPost base R (stepS rs) (.int .i64 (stepE rs)) w) := by
  obtain ⟨_, _, c2, c3, c4⟩ := h.cells
  have f3 := h.free 3
  have f4 := h.free 4
  have H := Lib.hid h
  have hw := Lib.hid h.nw
  have hk := Kept.refl (rfoot R) w
  clear h
  unfold stepS stepE
  cases hf : rs.fz with
  | false =>
    rw [hf] at c2
    simp only [Bool.false_eq_true, ↓reduceIte]
    clear hf hn
    go_enter Tryd.func54, Tryd.ntmps54
    go_wp2_with fail
    go_ret
    exact RfPost.same rfl H.out hk
  | true =>
    rw [hf] at c2
    simp only [↓reduceIte]
    have hn0 := hn hf
    by_cases h0 : rs.n = 0
    · simp only [h0, ↓reduceIte]
      have hd : (rs.n == 0) = true := by simpa using h0
      have HF := Lib.hid hf
      have H0 := Lib.hid h0
      clear hn hn0 h0 hf
      go_enter Tryd.func54, Tryd.ntmps54
      go_wp2_with fail
      go_ret
      refine RfPost.same rfl (H.out.setC 4 (.bool true) ?_ rfl rfl ?_) (hk.set (.inl rfl))
      · simp [rfCells, HF.out, H0.out]
      · first
          | exact hw.out
          | exact Wf.of (by show _ ≤ (0 : Int); omega) (by show (0 : Int) ≤ _; omega)
    · simp only [h0, ↓reduceIte]
      have hd : (rs.n == 0) = false := by simpa using h0
      have hb := int_i64 hw.out
      have HF := Lib.hid hf
      have hn1 : 1 ≤ rs.n := by omega
      clear hn hn0 h0 hf
      go_enter Tryd.func54, Tryd.ntmps54
      go_wp2_with fail
      go_ret
      exact RfPost.same rfl (H.out.setC 3 (.int .i64 (rs.n - 1)) (by simp [rfCells, HF.out]) rfl rfl (Wf.of (by show _ ≤ rs.n - 1; omega) (by show rs.n - 1 ≤ _; omega))) (hk.set (.inl rfl))
set_option maxHeartbeats 1000000 in
set_option maxRecDepth 100000 in
theorem fuse_ref {base : Nat} {w : World} {R : RF} {rs : RSt} (h : RRaw base w R rs) (n : Int) (hn : Wf n) : Calls Tryd.prog 27 #[.pointer (some ⟨R.b, 0, none⟩), .int .i64 n] w (RfPost base R { rs with fz := decide (0 ≤ n), n := n } (.tuple #[]) w) := by
  obtain ⟨_, _, c2, c3, c4⟩ := h.cells
  have f2 := h.free 2
  have f3 := h.free 3
  have hb := int_i64 hn
  have H := Lib.hid h
  have hk := Kept.refl (rfoot R) w
  clear h
  go_enter Tryd.func27, Tryd.ntmps27
  go_wp2_with fail
  go_end0
  have e := (H.out.setC (rs' := { rs with fz := decide (0 ≤ n) }) 2 (.bool (decide (0 ≤ n))) rfl rfl rfl H.out.nw).setC (rs' := { rs with fz := decide (0 ≤ n), n := n }) 3 (.int .i64 n) rfl rfl rfl hn
  exact RfPost.same rfl e ((hk.set (.inl rfl)).set (.inl rfl))
def errP (rs : RSt) (x : Int) (s : ByteArray) : Int := if rs.off then 12 else if x < 0 ∨ (rs.su.length : Int) ≤ x then 2 else if 64 < s.size then 8 else stepE rs
def rputS (rs : RSt) (x : Int) (s : ByteArray) : RSt := if rs.off then rs else if x < 0 ∨ (rs.su.length : Int) ≤ x then rs else if 64 < s.size then rs else if stepE rs = 0 then { stepS rs with L := (stepS rs).L ++ [(x, s)] } else stepS rs
theorem stepS_same {rs : RSt} : (stepS rs).su = rs.su ∧ (stepS rs).L = rs.L := by
  unfold stepS; split
  · split <;> exact ⟨rfl, rfl⟩
  · exact ⟨rfl, rfl⟩
theorem rlo_row : (Tryd.prog.info? 94).map (fun i => (i.zero, i.size, i.bytes)) = some (some (.agg #[.int .i64 0, .string ByteArray.empty]), 2, 24) := by kernel_rfl
theorem put_ref_end {base : Nat} {w W4 w5 : World} {R : RF} {rs : RSt} {v5 : Value} (HR : RRaw base W4 R rs) (hK : Kept (rfoot R) w W4) (x : RLo) (hx : 0 ≤ x.1 ∧ x.1 < rs.su.length ∧ x.2.size ≤ 64) (hO : Own rRLo (fun _ => True) w5 base 94 v5 (rs.L ++ [x]))
    (hK5 : Kept (fun j => some j = R.lv.ownBlock) W4 w5) (hw5 : v5.ownBlock = R.lv.ownBlock ∨ ∃ g, v5.ownBlock = some g ∧ W4.heap.size < g) (v : Value) :
    RfPost base R { rs with L := rs.L ++ [x] } v w (.returned v) (w5.setCell ⟨R.b, 1, none⟩ v5) := by
  have h5 : ∀ j, v5.ownBlock = some j → R.lv.ownBlock = some j ∨ W4.heap.size < j := by
    intro j hj
    rcases hw5 with e | ⟨g, e, hg⟩
    · exact .inl (e ▸ hj)
    · rw [e] at hj; injection hj with hj; exact .inr (hj ▸ hg)
  have hlt := HR.lt
  have ne : ∀ j, j < W4.heap.size → R.lv.ownBlock ≠ some j → v5.ownBlock ≠ some j := by
    intro j hj hn e
    rcases h5 j e with h | h
    · exact hn h
    · omega
  have hx1 : ¬ some R.b = R.lv.ownBlock := fun e => HR.a2 e.symm
  have hR5 : RRaw base (w5.setCell ⟨R.b, 1, none⟩ v5) { R with lv := v5 } { rs with L := rs.L ++ [x] } := by
    have hk2 := Kept.setCell (X := fun k => k = R.b) w5 (p := ⟨R.b, 1, none⟩) rfl v5
    have hb5 : w5.heap[R.b]? = some (.cells (rfCells R rs) 67 (0, 0)) := (hK5.block R.b hlt.1 hx1).trans HR.blk
    exact { HR with
      lat := by
        intro y hy
        rcases List.mem_append.1 hy with hy | hy
        · exact HR.lat y hy
        · simp only [List.mem_singleton] at hy; rw [hy]; exact hx
      blk := by rw [heap_setCell_same w5 _ 1 _ _ _ hb5]; rfl
      own1 := (HR.own1.kept hK5 HR.gl (fun e => HR.a3 e.symm)).kept hk2 (Nat.lt_of_lt_of_le HR.gl hK5.size) HR.a1
      gl := by simpa using Nat.lt_of_lt_of_le HR.gl hK5.size
      own2 := hO.flat rlo_flat hk2 (fun k e hh => by subst hh; exact ne _ hlt.1 HR.a2 e)
      a2 := ne _ hlt.1 HR.a2
      a3 := ne _ hlt.2.1 HR.a3 }
  refine ⟨_, rfl, hR5, rfl, ?_, ?_⟩
  · rintro j (rfl | rfl | hj)
    · exact .inl (.inl rfl)
    · exact .inl (.inr (.inl rfl))
    · rcases h5 j hj.symm with h | h
      · exact .inl (.inr (.inr h.symm))
      · exact .inr (by have := hK.size; omega)
  · exact (hK.trans hK5 (Z := rfoot R) (fun _ _ h => h) (fun _ _ e => .inr (.inr e))).set (.inl rfl)
theorem RfPost.trans {base : Nat} {R : RF} {rs1 rs2 : RSt} {v1 v2 : Value} {w w1 w2 : World} {e1 e2 : Ending} {R1 : RF} (h1 : R1.b = R.b) (hf : ∀ k, rfoot R1 k → rfoot R k ∨ w.heap.size ≤ k) (hK : Kept (rfoot R) w w1) (h : RfPost base R1 rs2 v2 w1 e2 w2) : RfPost base R rs2 v2 w e2 w2 := by
  obtain ⟨R2, he, hR, hb, hf2, hk2⟩ := h
  refine ⟨R2, he, hR, hb.trans h1, fun k hk => ?_, ?_⟩
  · rcases hf2 k hk with h | h
    · exact hf k h
    · exact .inr (by have := hK.size; omega)
  · exact hK.trans hk2 (fun _ _ h => h) (fun k hk h => by
      rcases hf k h with h | h
      · exact h
      · omega)
set_option maxHeartbeats 1000000 in
set_option maxRecDepth 100000 in
theorem put_plate_ref {base : Nat} {w : World} {R : RF} {rs : RSt} (h : RRaw base w R rs) (hn : rs.fz = true → 0 ≤ rs.n) (x : Int) (s : ByteArray) (hs : s.size ≤ maxTx) (hx : Wf x) (hll : rs.L.length ≤ 1000000000) :
    Calls Tryd.prog 29 #[.pointer (some ⟨R.b, 0, none⟩), .int .i64 x, .string s] w (RfPost base R (rputS rs x s) (.int .i64 (errP rs x s)) w) := by
  obtain ⟨_, _, _, _, c4⟩ := h.cells
  have HS := Lib.hid (size_ref h)
  have HB := Lib.hid (step_ref h hn)
  have H := Lib.hid h
  have hk := Kept.refl (rfoot R) w
  have hs0 := hs
  unfold maxTx at hs
  unfold rputS errP
  cases ho : rs.off with
  | true =>
    rw [ho] at c4
    simp only [↓reduceIte]
    clear ho h hn
    go_enter Tryd.func29, Tryd.ntmps29
    go_wp2_with fail
    go_ret
    exact RfPost.same rfl H.out hk
  | false =>
    rw [ho] at c4
    simp only [↓reduceIte, Bool.false_eq_true]
    by_cases h0 : x < 0
    · have hd : decide (x < 0) = true := by simpa using h0
      simp only [h0, true_or, ↓reduceIte]
      clear ho h hn h0
      go_enter Tryd.func29, Tryd.ntmps29
      go_wp2_with fail
      go_ret
      exact RfPost.same rfl H.out hk
    · have hd : decide (x < 0) = false := by simpa using h0
      by_cases h1 : (rs.su.length : Int) ≤ x
      · have hd1 : decide ((rs.su.length : Int) ≤ x) = true := by simpa using h1
        simp only [h1, or_true, ↓reduceIte]
        clear ho h hn h0 h1
        go_enter Tryd.func29, Tryd.ntmps29
        go_wp2_with ((with_reducible refine (HS.out).mono ?_); rintro e w' ⟨rfl, rfl⟩)
        go_ret
        exact RfPost.same rfl H.out hk
      · have hd1 : decide ((rs.su.length : Int) ≤ x) = false := by simpa using h1
        simp only [h0, h1, or_self, ↓reduceIte]
        by_cases hl : 64 < s.size
        · have hd2 : decide ((64 : Int) < (s.size : Int)) = true := by simp; omega
          simp only [hl, ↓reduceIte]
          clear ho h hn h0 h1
          go_enter Tryd.func29, Tryd.ntmps29
          go_wp2_with ((with_reducible refine (HS.out).mono ?_); rintro e w' ⟨rfl, rfl⟩)
          go_ret
          exact RfPost.same rfl H.out hk
        · have hd2 : decide ((64 : Int) < (s.size : Int)) = false := by simp; omega
          simp only [hl, ↓reduceIte]
          by_cases hb : stepE rs = 0
          · simp only [hb, ↓reduceIte]
            rw [hb] at HB
            have hx2 : 0 ≤ x ∧ x < (stepS rs).su.length ∧ s.size ≤ 64 := by rw [stepS_same.1]; omega
            have hll1 : (stepS rs).L.length ≤ 1000000000 := by rw [stepS_same.2]; exact hll
            generalize stepS rs = rs1 at *
            have HX := Lib.hid hx2
            have hs64 : s.size ≤ 64 := by omega
            obtain ⟨i0, hi, hz0, hz1, hz2⟩ := info_parts rlo_row
            have HI := Lib.hid hi
            have HZ0 := Lib.hid hz0
            have HZ1 := Lib.hid hz1
            have HZ2 := Lib.hid hz2
            clear ho h hn h0 h1 hb hx2 hl hi hz0 hz1 hz2
            go_enter Tryd.func29, Tryd.ntmps29
            go_wp2_with (first
              | ((with_reducible refine (HS.out).mono ?_); rintro e w' ⟨rfl, rfl⟩)
              | ((with_reducible refine (HB.out).mono ?_); rintro e w1 ⟨R1, rfl, hR1, hb1, hf1, hK1⟩; have q1 := hR1.cells.2.1; rw [hb1] at q1; have hb4 := hR1.own2; have hb2 := hR1.base_le; have HR1 := Lib.hid hR1; have HB1 := Lib.hid hb1; clear hR1 hb1)
              | (at_builtin; refine wpList_push rRLo rfl _ _ 65 rfl base 94 i0 _ 24 Tryd.underlying65 HI.out HZ0.out HZ1.out HZ2.out (by rfl) (by decide) (fun _ => True) R1.lv rs1.L rfl hb4 [.int .i64 x, .string s] (x, s) _ rfl rfl (rlo_rel _ _ (x, s) hx hs0) (by simp [Value.oneCell']) (by unfold maxLen; omega) (by omega) hb2 ?_; intro v5 w5 hO5 hK5 hw5;
                 obtain ⟨ao5, cap5, rfl⟩ := hO5.form; rw [show (rs1.L ++ [(x, s)]).length = rs1.L.length + 1 by simp] at hO5 hw5 ⊢;
                 have hc5 : w5.cell? ⟨R.b, 1, none⟩ = some R1.lv := (hK5.cell (p := ⟨_, _, none⟩) (by rw [← HB1.out]; exact HR1.out.lt.1) (fun e => HR1.out.a2 (by rw [HB1.out]; exact e.symm))).trans q1;
                 have hf5 : w5.frozen? ⟨R.b, 1, none⟩ = false := (hK5.frozen (p := ⟨_, _, none⟩) (by rw [← HB1.out]; exact HR1.out.lt.1) (fun e => HR1.out.a2 (by rw [HB1.out]; exact e.symm))).trans (by have := HR1.out.free 1; rwa [HB1.out] at this)))
            go_ret
            refine RfPost.trans (rs1 := rs1) (v1 := .tuple #[]) (e1 := .returned (.tuple #[])) HB1.out hf1 hK1 ?_
            have e := put_ref_end HR1.out (Kept.refl _ _) (x, s) HX.out hO5 hK5 hw5 (.int .i64 0)
            rw [HB1.out] at e
            exact e
          · have hne : (stepE rs == 0) = false := by simpa using hb
            simp only [hb, ↓reduceIte]
            generalize stepE rs = y at *
            clear ho h hn h0 h1 hb hl
            go_enter Tryd.func29, Tryd.ntmps29
            go_wp2_with (first
              | ((with_reducible refine (HS.out).mono ?_); rintro e w' ⟨rfl, rfl⟩)
              | ((with_reducible refine (HB.out).mono ?_); rintro e w1 ⟨R1, rfl, hR1, hb1, hf1, hK1⟩))
            go_ret
            exact ⟨R1, rfl, hR1, hb1, hf1, hK1⟩
end Go.Proofs.YtaljgcdjkmpljaaDoor
