/- The reference's plate: how it lies in memory; its put. -/
import Derived.Test.YtaljgcdjkmpljaaDoorPlA
import Derived.Deep.RegionHeld3
namespace Go.Proofs.YtaljgcdjkmpljaaDoor
open Go.RowKit Lift
set_option linter.unusedSimpArgs false
set_option linter.unusedVariables false

/-- So many bytes from a place on are a text's, and zeros behind it. -/
def putB (B : List UInt8) (o : Nat) (s : ByteArray) (f : Nat) : Nat → List UInt8
  | 0 => B
  | k + 1 => (putB B o s f k).set (o + (f + k)) (nb s (f + k))
theorem putB_len (B : List UInt8) (o : Nat) (s : ByteArray) (f : Nat) : ∀ k, (putB B o s f k).length = B.length
  | 0 => rfl
  | k + 1 => by unfold putB; rw [List.length_set, putB_len B o s f k]
theorem putB_get (B : List UInt8) (o : Nat) (s : ByteArray) (f : Nat) : ∀ k i, (putB B o s f k)[i]? = if o + f ≤ i ∧ i < o + f + k ∧ i < B.length then some (nb s (i - o)) else B[i]?
  | 0, i => by rw [if_neg (by omega)]; rfl
  | k + 1, i => by
    unfold putB
    rw [List.getElem?_set, putB_get B o s f k i, putB_len]
    by_cases h1 : o + (f + k) = i
    · subst h1
      rw [if_pos rfl]
      by_cases h2 : o + (f + k) < B.length
      · rw [if_pos h2, if_pos ⟨by omega, by omega, h2⟩, show o + (f + k) - o = f + k by omega]
      · rw [if_neg h2, if_neg (fun h => h2 h.2.2), List.getElem?_eq_none (by omega)]
    · rw [if_neg h1]
      by_cases h2 : o + f ≤ i ∧ i < o + f + k ∧ i < B.length
      · rw [if_pos h2, if_pos ⟨h2.1, by omega, h2.2.2⟩]
      · rw [if_neg h2, if_neg (fun h => h2 ⟨h.1, by omega, h.2.2⟩)]
theorem set_cs (l : List UInt8) (i : Nat) (c : UInt8) : (Cs l).set i (.int .u8 (c.toNat : Int)) = Cs (l.set i c) := by
  simp [Lib.byteCells, List.map_set]
def PutPost (g : Nat) (B : List UInt8) (w : World) (e : Ending) (w' : World) : Prop :=
  e = .returned (.tuple #[]) ∧ Bytes w' g B ∧ Kept (fun k => k = g) w w'
set_option maxHeartbeats 1000000 in
set_option maxRecDepth 100000 in
theorem put_ref {g len cap a f l : Nat} {w : World} {B : List UInt8} {s : ByteArray} (h : Bytes w g B) (hBl : B.length = len) (hgl : g < w.heap.size) (hs : s.size ≤ 64) (hf : f ≤ l) (hl : l ≤ 64) (ha : 64 * a + 64 ≤ len) (hlen : len ≤ 600000) :
    Calls Tryd.prog 55 #[.slice (some ⟨g, 0, none⟩) len cap, .agg #[.int .i64 (a : Int), .string s], .int .i64 (f : Int), .int .i64 (l : Int)] w (PutPost g (putB B (64 * a) s f (l - f)) w) := by
  have H := Lib.hid h
  have HBL := Lib.hid hBl
  clear h hBl
  go_enter Tryd.func55, Tryd.ntmps55
  go_wp2_with fail
  go_loopw [8] (fun v8 wr => ∃ k : Nat, f + k ≤ l ∧ v8 = .int .i64 ((f + k : Nat) : Int) ∧ Hid (Bytes wr g (putB B (64 * a) s f k)) ∧ Kept (fun k => k = g) w wr ∧
    wr.cell? ⟨w.heap.size, 0, none⟩ = some (.int .i64 (a : Int)) ∧ wr.cell? ⟨w.heap.size, 1, none⟩ = some (.string s)) (fun v8 _ => l - (intOf v8).toNat)
  case atStart =>
    refine ⟨0, by omega, rfl, Lib.hid ?_, (Kept.refl _ w).new, by simp [go_sem], by simp [go_sem]⟩
    exact H.out.keep ((Below.refl _ w).alloc (Nat.le_refl _) _) hgl
  case round =>
    obtain ⟨k, hk, rfl, hO, hK, x0, x1⟩ := hrel
    by_cases hkl : f + k < l
    · obtain ⟨i, hi⟩ : ∃ i, f + k = i := ⟨_, rfl⟩
      have hgs := hK.size
      have hne : g ≠ w.heap.size := by omega
      have hi64 : i < 64 := by omega
      have hci : wr.cell? ⟨g, 64 * a + i, none⟩ = some (.int .u8 (((putB B (64 * a) s f k).getD (64 * a + i) 0).toNat : Int)) := by
        have hlen2 : 64 * a + i < (putB B (64 * a) s f k).length := by rw [putB_len, HBL.out]; omega
        exact hO.out.cell _ hlen2
      have hfi : wr.frozen? ⟨g, 64 * a + i, none⟩ = false := hO.out.free _ (by rw [putB_len, HBL.out]; omega)
      have hST := Lib.hid (hO.out.set (64 * a + i) (nb s i) ((nb s i).toNat : Int) rfl)
      generalize (putB B (64 * a) s f k).getD (64 * a + i) 0 = old at hci
      have hil : (i : Int) < (l : Int) := by omega
      have hil2 : i < l := by omega
      have hai : (64 : Int) * (a : Int) + (i : Int) < (len : Int) := by omega
      have hai2 : 64 * a + i < len := by omega
      have ha1 : (a : Int) ≤ 10000 := by omega
      have hii : (i : Int) ≤ 64 := by omega
      have hnb := pad_get s i hs hi64
      rw [hi]
      have HI := Lib.hid hi
      clear hi hkl
      by_cases his : i < s.size
      · rw [dif_pos his] at hnb
        have hisi : (i : Int) < (s.size : Int) := by omega
        have HNB := Lib.hid (show nb s i = s[i] from hnb)
        clear hnb
        go_wp2_with fail
        go_roundw
        case measure => simp [intOf]; omega
        case rel =>
          have hi := HI.out
          refine ⟨k + 1, by omega, by rw [← Nat.add_assoc, hi]; go_num, Lib.hid ?_, hK.set rfl, ?_, ?_⟩
          · have e := hST.out
            rw [HNB.out] at e
            unfold putB
            rw [hi, HNB.out]
            exact e
          · rw [World.cell?_setCell_other _ _ _ _ (by intro e; injection e with e _; exact hne e)]; exact x0
          · rw [World.cell?_setCell_other _ _ _ _ (by intro e; injection e with e _; exact hne e)]; exact x1
      · rw [dif_neg his] at hnb
        have HNB := Lib.hid (show nb s i = 0 from hnb)
        have hisi : decide ((i : Int) < (s.size : Int)) = false := by simp; omega
        have hisi2 : ¬ (i : Int) < (s.size : Int) := by omega
        clear hnb
        go_wp2_with fail
        go_roundw
        case measure => simp [intOf]; omega
        case rel =>
          have hi := HI.out
          refine ⟨k + 1, by omega, by rw [← Nat.add_assoc, hi]; go_num, Lib.hid ?_, hK.set rfl, ?_, ?_⟩
          · have e := hST.out
            rw [HNB.out] at e
            unfold putB
            rw [hi, HNB.out]
            exact e
          · rw [World.cell?_setCell_other _ _ _ _ (by intro e; injection e with e _; exact hne e)]; exact x0
          · rw [World.cell?_setCell_other _ _ _ _ (by intro e; injection e with e _; exact hne e)]; exact x1
    · obtain rfl : k = l - f := by omega
      have hll : ((f + (l - f) : Nat) : Int) = (l : Int) := by omega
      rw [hll]
      have hge : ¬ (l : Int) < (l : Int) := by omega
      go_wp2_with fail
      go_end0
      exact ⟨rfl, hO.out, hK⟩
end Go.Proofs.YtaljgcdjkmpljaaDoor

/- The reference's plate: its state, Size, step, Fuse, Put. -/
namespace Go.Proofs.YtaljgcdjkmpljaaDoor
open Go.RowKit Lift
set_option linter.unusedSimpArgs false
set_option linter.unusedVariables false

theorem flat_get : ∀ {l : Secs} (q r : Nat), (∀ d ∈ l, d.length = 64) → r < 64 → l.flatten[64 * q + r]? = (l[q]?).bind (fun d => d[r]?)
  | [], q, r, _, _ => by simp
  | x :: t, 0, r, h, hr => by
    have hx := h x (by simp)
    rw [List.flatten_cons, List.getElem?_append_left (by omega)]
    simp
  | x :: t, q + 1, r, h, hr => by
    have hx := h x (by simp)
    rw [List.flatten_cons, List.getElem?_append_right (by omega), show 64 * (q + 1) + r - x.length = 64 * q + r by omega, flat_get q r (fun d hd => h d (List.mem_cons_of_mem _ hd)) hr]
    simp
def spl (y : List UInt8) (s : ByteArray) (f k : Nat) : List UInt8 := y.take f ++ ((pad s).drop f).take k ++ y.drop (f + k)
theorem spl_len {y : List UInt8} {s : ByteArray} {f k : Nat} (hy : y.length = 64) (hs : s.size ≤ 64) (hk : f + k ≤ 64) : (spl y s f k).length = 64 := by
  have := pad_len hs
  simp [spl]; omega
theorem spl_get {y : List UInt8} {s : ByteArray} {f k : Nat} (hy : y.length = 64) (hs : s.size ≤ 64) (hk : f + k ≤ 64) (r : Nat) (hr : r < 64) : (spl y s f k)[r]? = if f ≤ r ∧ r < f + k then some (nb s r) else y[r]? := by
  have hp := pad_len hs
  unfold spl
  by_cases h1 : r < f
  · rw [if_neg (by omega), List.append_assoc, List.getElem?_append_left (by simp; omega), List.getElem?_take_of_lt h1]
  · by_cases h2 : r < f + k
    · rw [if_pos ⟨by omega, h2⟩, List.append_assoc, List.getElem?_append_right (by simp; omega), List.getElem?_append_left (by simp; omega)]
      rw [List.getElem?_take_of_lt (by simp; omega), List.getElem?_drop]
      rw [show f + (r - (List.take f y).length) = r by simp; omega]
      unfold nb
      rw [List.getD_eq_getElem?_getD, List.getElem?_eq_getElem (by omega)]
      rfl
    · rw [if_neg (by omega), List.getElem?_append_right (by simp; omega), List.getElem?_drop]
      congr 1
      simp; omega
theorem putB_flat {l : Secs} {a f k : Nat} {s : ByteArray} {y : List UInt8} (h64 : ∀ d ∈ l, d.length = 64) (hy : l[a]? = some y) (hk : f + k ≤ 64) (hs : s.size ≤ 64) :
    putB l.flatten (64 * a) s f k = (l.set a (spl y s f k)).flatten := by
  have hal := (List.getElem?_eq_some_iff.1 hy).1
  have hyl := h64 y (List.mem_of_getElem? hy)
  have h64b : ∀ d ∈ l.set a (spl y s f k), d.length = 64 := fun d hd => by
    rcases List.mem_or_eq_of_mem_set hd with hd | rfl
    · exact h64 d hd
    · exact spl_len hyl hs hk
  apply List.ext_getElem?
  intro i
  obtain ⟨q, r, hr, rfl⟩ : ∃ q r, r < 64 ∧ i = 64 * q + r := ⟨i / 64, i % 64, Nat.mod_lt _ (by omega), by omega⟩
  rw [putB_get, flat_get q r h64b hr, flat_get q r h64 hr, flat_len h64]
  by_cases hq : a = q
  · subst hq
    rw [List.getElem?_set_self hal, hy]
    simp only [Option.bind_some]
    rw [spl_get hyl hs hk r hr]
    by_cases h1 : f ≤ r ∧ r < f + k
    · rw [if_pos ⟨by omega, by omega, by omega⟩, if_pos h1, show 64 * a + r - 64 * a = r by omega]
    · rw [if_neg (by omega), if_neg h1]
  · rw [List.getElem?_set_ne hq, if_neg (by omega)]

abbrev RLo := Int × ByteArray
def rRLo : Rd RLo := (Rd.int .i64).pair Rd.str
theorem rlo_flat : Flat rRLo := by
  rintro S S' w w' cs c ⟨c1, c2, rfl, h1, h2⟩
  exact ⟨c1, c2, rfl, h1, h2⟩
theorem rlo_rel (S : Nat → Prop) (w : World) (c : RLo) (h1 : Wf c.1) (h2 : c.2.size ≤ maxTx) : rRLo.rel S w [.int .i64 c.1, .string c.2] c := ⟨[_], [_], rfl, ⟨rfl, h1⟩, ⟨rfl, h2⟩⟩
/-- Where it lies. -/
structure RF where
  b : Nat
  g : Nat
  cap : Nat
  lv : Value
structure RSt where
  su : Secs
  L : List RLo
  fz : Bool
  n : Int
  off : Bool
def rfCells (R : RF) (rs : RSt) : Array Value := #[.slice (some ⟨R.g, 0, none⟩) (64 * rs.su.length) R.cap, R.lv, .bool rs.fz, .int .i64 rs.n, .bool rs.off]
def rfoot (R : RF) (k : Nat) : Prop := k = R.b ∨ k = R.g ∨ some k = R.lv.ownBlock
structure RRaw (base : Nat) (w : World) (R : RF) (rs : RSt) : Prop where
  n1 : 1 ≤ rs.su.length
  n2 : rs.su.length ≤ 8192
  s64 : ∀ d ∈ rs.su, d.length = 64
  nw : Wf rs.n
  lat : ∀ x ∈ rs.L, 0 ≤ x.1 ∧ x.1 < rs.su.length ∧ x.2.size ≤ 64
  blk : w.heap[R.b]? = some (.cells (rfCells R rs) 67 (0, 0))
  own1 : Bytes w R.g rs.su.flatten
  gb : base ≤ R.g
  gl : R.g < w.heap.size
  hcap : 64 * rs.su.length ≤ R.cap
  hcm : R.cap ≤ maxLen
  own2 : Own rRLo (fun _ => True) w base 94 R.lv rs.L
  bb : base ≤ R.b
  a1 : R.g ≠ R.b
  a2 : R.lv.ownBlock ≠ some R.b
  a3 : R.lv.ownBlock ≠ some R.g
theorem RRaw.lt {base : Nat} {w : World} {R : RF} {rs : RSt} (h : RRaw base w R rs) : R.b < w.heap.size ∧ R.g < w.heap.size ∧ ∀ k, R.lv.ownBlock = some k → k < w.heap.size :=
  ⟨(Array.getElem?_eq_some_iff.1 h.blk).1, h.gl, fun k hk => (h.own2.lt _ hk).2⟩
theorem RRaw.ge {base : Nat} {w : World} {R : RF} {rs : RSt} (h : RRaw base w R rs) : ∀ k, rfoot R k → base ≤ k := by
  rintro k (rfl | rfl | hk)
  · exact h.bb
  · exact h.gb
  · exact (h.own2.lt _ hk.symm).1
theorem RRaw.inb {base : Nat} {w : World} {R : RF} {rs : RSt} (h : RRaw base w R rs) : ∀ k, rfoot R k → k < w.heap.size := by
  obtain ⟨h1, h2, h3⟩ := h.lt
  rintro k (rfl | rfl | hk)
  · exact h1
  · exact h2
  · exact h3 k hk.symm
theorem RRaw.kept {base : Nat} {w w' : World} {R : RF} {rs : RSt} {X : Nat → Prop} (h : RRaw base w R rs) (hk : Kept X w w') (hx : ∀ k, rfoot R k → ¬ X k) : RRaw base w' R rs :=
  { h with
    blk := (hk.block R.b h.lt.1 (hx _ (.inl rfl))).trans h.blk
    own1 := h.own1.kept hk h.gl (hx _ (.inr (.inl rfl)))
    gl := Nat.lt_of_lt_of_le h.gl hk.size
    own2 := h.own2.flat rlo_flat hk (fun k e => hx k (.inr (.inr e.symm))) }
theorem RRaw.below {base : Nat} {w w' : World} {R : RF} {rs : RSt} (h : RRaw base w R rs) (hb : Below w.heap.size w w') : RRaw base w' R rs :=
  h.kept (Kept.of_below hb (fun _ => False)) (fun _ _ h => h)
theorem RRaw.cells {base : Nat} {w : World} {R : RF} {rs : RSt} (h : RRaw base w R rs) :
    w.cell? ⟨R.b, 0, none⟩ = some (.slice (some ⟨R.g, 0, none⟩) (64 * rs.su.length) R.cap) ∧ w.cell? ⟨R.b, 1, none⟩ = some R.lv ∧ w.cell? ⟨R.b, 2, none⟩ = some (.bool rs.fz) ∧
    w.cell? ⟨R.b, 3, none⟩ = some (.int .i64 rs.n) ∧ w.cell? ⟨R.b, 4, none⟩ = some (.bool rs.off) :=
  ⟨cell_of_row w _ _ _ _ _ h.blk, cell_of_row w _ _ _ _ _ h.blk, cell_of_row w _ _ _ _ _ h.blk, cell_of_row w _ _ _ _ _ h.blk, cell_of_row w _ _ _ _ _ h.blk⟩
theorem RRaw.free {base : Nat} {w : World} {R : RF} {rs : RSt} (h : RRaw base w R rs) (i : Nat) : w.frozen? ⟨R.b, i, none⟩ = false := frozen_of_row w _ _ _ _ h.blk
theorem RRaw.base_le {base : Nat} {w : World} {R : RF} {rs : RSt} (h : RRaw base w R rs) : base ≤ w.heap.size := by
  have := h.bb; have := h.lt.1; omega
/-- Cells 2, 3, 4 of the block. -/
theorem RRaw.setC {base : Nat} {w : World} {R : RF} {rs rs' : RSt} (h : RRaw base w R rs) (i : Nat) (v : Value) (hi : (rfCells R rs).setIfInBounds i v = rfCells R rs') (hsu : rs'.su = rs.su) (hL : rs'.L = rs.L) (hn : Wf rs'.n) : RRaw base (w.setCell ⟨R.b, i, none⟩ v) R rs' := by
  have hk := Kept.setCell (X := fun k => k = R.b) w (p := ⟨R.b, i, none⟩) rfl v
  exact {
    n1 := by rw [hsu]; exact h.n1
    n2 := by rw [hsu]; exact h.n2
    s64 := by rw [hsu]; exact h.s64
    nw := hn
    lat := by rw [hsu, hL]; exact h.lat
    blk := by rw [heap_setCell_same w _ i _ _ _ h.blk, hi]
    own1 := by rw [hsu]; exact h.own1.kept hk h.gl h.a1
    gb := h.gb
    gl := by simpa using h.gl
    hcap := by rw [hsu]; exact h.hcap
    hcm := h.hcm
    own2 := by rw [hL]; exact h.own2.flat rlo_flat hk (fun k e hh => by subst hh; exact h.a2 e)
    bb := h.bb
    a1 := h.a1
    a2 := h.a2
    a3 := h.a3 }
/-- What a step of it leaves. -/
def RfPost (base : Nat) (R : RF) (rs : RSt) (v : Value) (w : World) (e : Ending) (w' : World) : Prop :=
  ∃ R', e = .returned v ∧ RRaw base w' R' rs ∧ R'.b = R.b ∧ (∀ k, rfoot R' k → rfoot R k ∨ w.heap.size ≤ k) ∧ Kept (rfoot R) w w'
theorem RfPost.same {base : Nat} {R : RF} {rs : RSt} {v : Value} {w w' : World} {e : Ending} (he : e = .returned v) (h : RRaw base w' R rs) (hk : Kept (rfoot R) w w') : RfPost base R rs v w e w' :=
  ⟨R, he, h, rfl, fun k h => .inl h, hk⟩
set_option maxHeartbeats 1000000 in
set_option maxRecDepth 100000 in
theorem size_ref {base : Nat} {w : World} {R : RF} {rs : RSt} (h : RRaw base w R rs) : Calls Tryd.prog 53 #[.pointer (some ⟨R.b, 0, none⟩)] w (IntPost .i64 rs.su.length w) := by
  have c0 := h.cells.1
  have hn2 := h.n2
  clear h
  have hq : ((64 * rs.su.length : Nat) : Int) / 64 = (rs.su.length : Int) := by omega
  have hq2 : (64 * (rs.su.length : Int)) / 64 = (rs.su.length : Int) := by omega
  go_enter Tryd.func53, Tryd.ntmps53
  go_wp2_with fail
  go_ret
  exact ⟨ret_int (by first | rfl | omega), rfl⟩
def stepS (rs : RSt) : RSt := if rs.fz then (if rs.n = 0 then { rs with off := true } else { rs with n := rs.n - 1 }) else rs
def stepE (rs : RSt) : Int := if rs.fz then (if rs.n = 0 then 12 else 0) else 0
set_option maxHeartbeats 1000000 in
set_option maxRecDepth 100000 in
theorem step_ref {base : Nat} {w : World} {R : RF} {rs : RSt} (h : RRaw base w R rs) (hn : rs.fz = true → 0 ≤ rs.n) : Calls Tryd.prog 54 #[.pointer (some ⟨R.b, 0, none⟩)] w (RfPost base R (stepS rs) (.int .i64 (stepE rs)) w) := by
  obtain ⟨_, _, c2, c3, c4⟩ := h.cells
  have f3 := h.free 3
  have f4 := h.free 4
  have H := Lib.hid h
  have hw := Lib.hid h.nw
  have hk := Kept.refl (rfoot R) w
  clear h
  unfold stepS stepE
  cases hf : rs.fz with
  | false =>
    rw [hf] at c2
    simp only [Bool.false_eq_true, ↓reduceIte]
    clear hf hn
    go_enter Tryd.func54, Tryd.ntmps54
    go_wp2_with fail
    go_ret
    exact RfPost.same rfl H.out hk
  | true =>
    rw [hf] at c2
    simp only [↓reduceIte]
    have hn0 := hn hf
    by_cases h0 : rs.n = 0
    · simp only [h0, ↓reduceIte]
      have hd : (rs.n == 0) = true := by simpa using h0
      have HF := Lib.hid hf
      have H0 := Lib.hid h0
      clear hn hn0 h0 hf
      go_enter Tryd.func54, Tryd.ntmps54
      go_wp2_with fail
      go_ret
      refine RfPost.same rfl (H.out.setC 4 (.bool true) ?_ rfl rfl ?_) (hk.set (.inl rfl))
      · simp [rfCells, HF.out, H0.out]
      · first
          | exact hw.out
          | exact Wf.of (by show _ ≤ (0 : Int); omega) (by show (0 : Int) ≤ _; omega)
    · simp only [h0, ↓reduceIte]
      have hd : (rs.n == 0) = false := by simpa using h0
      have hb := int_i64 hw.out
      have HF := Lib.hid hf
      have hn1 : 1 ≤ rs.n := by omega
      clear hn hn0 h0 hf
      go_enter Tryd.func54, Tryd.ntmps54
      go_wp2_with fail
      go_ret
      exact RfPost.same rfl (H.out.setC 3 (.int .i64 (rs.n - 1)) (by simp [rfCells, HF.out]) rfl rfl (Wf.of (by show _ ≤ rs.n - 1; omega) (by show rs.n - 1 ≤ _; omega))) (hk.set (.inl rfl))
set_option maxHeartbeats 1000000 in
set_option maxRecDepth 100000 in
theorem fuse_ref {base : Nat} {w : World} {R : RF} {rs : RSt} (h : RRaw base w R rs) (n : Int) (hn : Wf n) : Calls Tryd.prog 27 #[.pointer (some ⟨R.b, 0, none⟩), .int .i64 n] w (RfPost base R { rs with fz := decide (0 ≤ n), n := n } (.tuple #[]) w) := by
  obtain ⟨_, _, c2, c3, c4⟩ := h.cells
  have f2 := h.free 2
  have f3 := h.free 3
  have hb := int_i64 hn
  have H := Lib.hid h
  have hk := Kept.refl (rfoot R) w
  clear h
  go_enter Tryd.func27, Tryd.ntmps27
  go_wp2_with fail
  go_end0
  have e := (H.out.setC (rs' := { rs with fz := decide (0 ≤ n) }) 2 (.bool (decide (0 ≤ n))) rfl rfl rfl H.out.nw).setC (rs' := { rs with fz := decide (0 ≤ n), n := n }) 3 (.int .i64 n) rfl rfl rfl hn
  exact RfPost.same rfl e ((hk.set (.inl rfl)).set (.inl rfl))
def errP (rs : RSt) (x : Int) (s : ByteArray) : Int := if rs.off then 12 else if x < 0 ∨ (rs.su.length : Int) ≤ x then 2 else if 64 < s.size then 8 else stepE rs
def rputS (rs : RSt) (x : Int) (s : ByteArray) : RSt := if rs.off then rs else if x < 0 ∨ (rs.su.length : Int) ≤ x then rs else if 64 < s.size then rs else if stepE rs = 0 then { stepS rs with L := (stepS rs).L ++ [(x, s)] } else stepS rs
theorem stepS_same {rs : RSt} : (stepS rs).su = rs.su ∧ (stepS rs).L = rs.L := by
  unfold stepS; split
  · split <;> exact ⟨rfl, rfl⟩
  · exact ⟨rfl, rfl⟩
theorem rlo_row : (Tryd.prog.info? 94).map (fun i => (i.zero, i.size, i.bytes)) = some (some (.agg #[.int .i64 0, .string ByteArray.empty]), 2, 24) := by kernel_rfl
theorem put_ref_end {base : Nat} {w W4 w5 : World} {R : RF} {rs : RSt} {v5 : Value} (HR : RRaw base W4 R rs) (hK : Kept (rfoot R) w W4) (x : RLo) (hx : 0 ≤ x.1 ∧ x.1 < rs.su.length ∧ x.2.size ≤ 64) (hO : Own rRLo (fun _ => True) w5 base 94 v5 (rs.L ++ [x]))
    (hK5 : Kept (fun j => some j = R.lv.ownBlock) W4 w5) (hw5 : v5.ownBlock = R.lv.ownBlock ∨ ∃ g, v5.ownBlock = some g ∧ W4.heap.size < g) (v : Value) :
    RfPost base R { rs with L := rs.L ++ [x] } v w (.returned v) (w5.setCell ⟨R.b, 1, none⟩ v5) := by
  have h5 : ∀ j, v5.ownBlock = some j → R.lv.ownBlock = some j ∨ W4.heap.size < j := by
    intro j hj
    rcases hw5 with e | ⟨g, e, hg⟩
    · exact .inl (e ▸ hj)
    · rw [e] at hj; injection hj with hj; exact .inr (hj ▸ hg)
  have hlt := HR.lt
  have ne : ∀ j, j < W4.heap.size → R.lv.ownBlock ≠ some j → v5.ownBlock ≠ some j := by
    intro j hj hn e
    rcases h5 j e with h | h
    · exact hn h
    · omega
  have hx1 : ¬ some R.b = R.lv.ownBlock := fun e => HR.a2 e.symm
  have hR5 : RRaw base (w5.setCell ⟨R.b, 1, none⟩ v5) { R with lv := v5 } { rs with L := rs.L ++ [x] } := by
    have hk2 := Kept.setCell (X := fun k => k = R.b) w5 (p := ⟨R.b, 1, none⟩) rfl v5
    have hb5 : w5.heap[R.b]? = some (.cells (rfCells R rs) 67 (0, 0)) := (hK5.block R.b hlt.1 hx1).trans HR.blk
    exact { HR with
      lat := by
        intro y hy
        rcases List.mem_append.1 hy with hy | hy
        · exact HR.lat y hy
        · simp only [List.mem_singleton] at hy; rw [hy]; exact hx
      blk := by rw [heap_setCell_same w5 _ 1 _ _ _ hb5]; rfl
      own1 := (HR.own1.kept hK5 HR.gl (fun e => HR.a3 e.symm)).kept hk2 (Nat.lt_of_lt_of_le HR.gl hK5.size) HR.a1
      gl := by simpa using Nat.lt_of_lt_of_le HR.gl hK5.size
      own2 := hO.flat rlo_flat hk2 (fun k e hh => by subst hh; exact ne _ hlt.1 HR.a2 e)
      a2 := ne _ hlt.1 HR.a2
      a3 := ne _ hlt.2.1 HR.a3 }
  refine ⟨_, rfl, hR5, rfl, ?_, ?_⟩
  · rintro j (rfl | rfl | hj)
    · exact .inl (.inl rfl)
    · exact .inl (.inr (.inl rfl))
    · rcases h5 j hj.symm with h | h
      · exact .inl (.inr (.inr h.symm))
      · exact .inr (by have := hK.size; omega)
  · exact (hK.trans hK5 (Z := rfoot R) (fun _ _ h => h) (fun _ _ e => .inr (.inr e))).set (.inl rfl)
theorem RfPost.trans {base : Nat} {R : RF} {rs1 rs2 : RSt} {v1 v2 : Value} {w w1 w2 : World} {e1 e2 : Ending} {R1 : RF} (h1 : R1.b = R.b) (hf : ∀ k, rfoot R1 k → rfoot R k ∨ w.heap.size ≤ k) (hK : Kept (rfoot R) w w1) (h : RfPost base R1 rs2 v2 w1 e2 w2) : RfPost base R rs2 v2 w e2 w2 := by
  obtain ⟨R2, he, hR, hb, hf2, hk2⟩ := h
  refine ⟨R2, he, hR, hb.trans h1, fun k hk => ?_, ?_⟩
  · rcases hf2 k hk with h | h
    · exact hf k h
    · exact .inr (by have := hK.size; omega)
  · exact hK.trans hk2 (fun _ _ h => h) (fun k hk h => by
      rcases hf k h with h | h
      · exact h
      · omega)
set_option maxHeartbeats 1000000 in
set_option maxRecDepth 100000 in
theorem put_plate_ref {base : Nat} {w : World} {R : RF} {rs : RSt} (h : RRaw base w R rs) (hn : rs.fz = true → 0 ≤ rs.n) (x : Int) (s : ByteArray) (hs : s.size ≤ maxTx) (hx : Wf x) (hll : rs.L.length ≤ 1000000000) :
    Calls Tryd.prog 29 #[.pointer (some ⟨R.b, 0, none⟩), .int .i64 x, .string s] w (RfPost base R (rputS rs x s) (.int .i64 (errP rs x s)) w) := by
  obtain ⟨_, _, _, _, c4⟩ := h.cells
  have HS := Lib.hid (size_ref h)
  have HB := Lib.hid (step_ref h hn)
  have H := Lib.hid h
  have hk := Kept.refl (rfoot R) w
  have hs0 := hs
  unfold maxTx at hs
  unfold rputS errP
  cases ho : rs.off with
  | true =>
    rw [ho] at c4
    simp only [↓reduceIte]
    clear ho h hn
    go_enter Tryd.func29, Tryd.ntmps29
    go_wp2_with fail
    go_ret
    exact RfPost.same rfl H.out hk
  | false =>
    rw [ho] at c4
    simp only [↓reduceIte, Bool.false_eq_true]
    by_cases h0 : x < 0
    · have hd : decide (x < 0) = true := by simpa using h0
      simp only [h0, true_or, ↓reduceIte]
      clear ho h hn h0
      go_enter Tryd.func29, Tryd.ntmps29
      go_wp2_with fail
      go_ret
      exact RfPost.same rfl H.out hk
    · have hd : decide (x < 0) = false := by simpa using h0
      by_cases h1 : (rs.su.length : Int) ≤ x
      · have hd1 : decide ((rs.su.length : Int) ≤ x) = true := by simpa using h1
        simp only [h1, or_true, ↓reduceIte]
        clear ho h hn h0 h1
        go_enter Tryd.func29, Tryd.ntmps29
        go_wp2_with ((with_reducible refine (HS.out).mono ?_); rintro e w' ⟨rfl, rfl⟩)
        go_ret
        exact RfPost.same rfl H.out hk
      · have hd1 : decide ((rs.su.length : Int) ≤ x) = false := by simpa using h1
        simp only [h0, h1, or_self, ↓reduceIte]
        by_cases hl : 64 < s.size
        · have hd2 : decide ((64 : Int) < (s.size : Int)) = true := by simp; omega
          simp only [hl, ↓reduceIte]
          clear ho h hn h0 h1
          go_enter Tryd.func29, Tryd.ntmps29
          go_wp2_with ((with_reducible refine (HS.out).mono ?_); rintro e w' ⟨rfl, rfl⟩)
          go_ret
          exact RfPost.same rfl H.out hk
        · have hd2 : decide ((64 : Int) < (s.size : Int)) = false := by simp; omega
          simp only [hl, ↓reduceIte]
          by_cases hb : stepE rs = 0
          · simp only [hb, ↓reduceIte]
            rw [hb] at HB
            have hx2 : 0 ≤ x ∧ x < (stepS rs).su.length ∧ s.size ≤ 64 := by rw [stepS_same.1]; omega
            have hll1 : (stepS rs).L.length ≤ 1000000000 := by rw [stepS_same.2]; exact hll
            generalize stepS rs = rs1 at *
            have HX := Lib.hid hx2
            have hs64 : s.size ≤ 64 := by omega
            obtain ⟨i0, hi, hz0, hz1, hz2⟩ := info_parts rlo_row
            have HI := Lib.hid hi
            have HZ0 := Lib.hid hz0
            have HZ1 := Lib.hid hz1
            have HZ2 := Lib.hid hz2
            clear ho h hn h0 h1 hb hx2 hl hi hz0 hz1 hz2
            go_enter Tryd.func29, Tryd.ntmps29
            go_wp2_with (first
              | ((with_reducible refine (HS.out).mono ?_); rintro e w' ⟨rfl, rfl⟩)
              | ((with_reducible refine (HB.out).mono ?_); rintro e w1 ⟨R1, rfl, hR1, hb1, hf1, hK1⟩; have q1 := hR1.cells.2.1; rw [hb1] at q1; have hb4 := hR1.own2; have hb2 := hR1.base_le; have HR1 := Lib.hid hR1; have HB1 := Lib.hid hb1; clear hR1 hb1)
              | (at_builtin; refine wpList_push rRLo rfl _ _ 65 rfl base 94 i0 _ 24 Tryd.underlying65 HI.out HZ0.out HZ1.out HZ2.out (by rfl) (by decide) (fun _ => True) R1.lv rs1.L rfl hb4 [.int .i64 x, .string s] (x, s) _ rfl rfl (rlo_rel _ _ (x, s) hx hs0) (by simp [Value.oneCell']) (by unfold maxLen; omega) (by omega) hb2 ?_; intro v5 w5 hO5 hK5 hw5;
                 obtain ⟨ao5, cap5, rfl⟩ := hO5.form; rw [show (rs1.L ++ [(x, s)]).length = rs1.L.length + 1 by simp] at hO5 hw5 ⊢;
                 have hc5 : w5.cell? ⟨R.b, 1, none⟩ = some R1.lv := (hK5.cell (p := ⟨_, _, none⟩) (by rw [← HB1.out]; exact HR1.out.lt.1) (fun e => HR1.out.a2 (by rw [HB1.out]; exact e.symm))).trans q1;
                 have hf5 : w5.frozen? ⟨R.b, 1, none⟩ = false := (hK5.frozen (p := ⟨_, _, none⟩) (by rw [← HB1.out]; exact HR1.out.lt.1) (fun e => HR1.out.a2 (by rw [HB1.out]; exact e.symm))).trans (by have := HR1.out.free 1; rwa [HB1.out] at this)))
            go_ret
            refine RfPost.trans (rs1 := rs1) (v1 := .tuple #[]) (e1 := .returned (.tuple #[])) HB1.out hf1 hK1 ?_
            have e := put_ref_end HR1.out (Kept.refl _ _) (x, s) HX.out hO5 hK5 hw5 (.int .i64 0)
            rw [HB1.out] at e
            exact e
          · have hne : (stepE rs == 0) = false := by simpa using hb
            simp only [hb, ↓reduceIte]
            generalize stepE rs = y at *
            clear ho h hn h0 h1 hb hl
            go_enter Tryd.func29, Tryd.ntmps29
            go_wp2_with (first
              | ((with_reducible refine (HS.out).mono ?_); rintro e w' ⟨rfl, rfl⟩)
              | ((with_reducible refine (HB.out).mono ?_); rintro e w1 ⟨R1, rfl, hR1, hb1, hf1, hK1⟩))
            go_ret
            exact ⟨R1, rfl, hR1, hb1, hf1, hK1⟩
end Go.Proofs.YtaljgcdjkmpljaaDoor

/- The reference's plate: New, Image, Get. -/
namespace Go.Proofs.YtaljgcdjkmpljaaDoor
open Go.RowKit Lift
set_option linter.unusedSimpArgs false
set_option linter.unusedVariables false

def toWr (x : RLo) : Wr := (x.1.toNat, pad x.2)
def rno (rs : RSt) : Secs := setAll (rs.L.map toWr) rs.su
theorem spl_full {y : List UInt8} {s : ByteArray} (hy : y.length = 64) (hs : s.size ≤ 64) : spl y s 0 64 = pad s := by
  have := pad_len hs
  unfold spl
  rw [List.take_zero, List.drop_zero, List.nil_append, List.take_of_length_le (by omega), List.drop_of_length_le (by omega), List.append_nil]
theorem rlo_get {base : Nat} {w : World} {v : Value} {l : List RLo} (h : Own rRLo (fun _ => True) w base 94 v l) {k : Nat} {c : RLo} (hk : l[k]? = some c) :
    ∃ g cap, v = .slice (some ⟨g, 0, none⟩) l.length cap ∧ w.cell? ⟨g, k * 2, none⟩ = some (.int .i64 c.1) ∧ w.cell? ⟨g, k * 2 + 1, none⟩ = some (.string c.2) := by
  obtain ⟨g, cap, rfl⟩ := own_some h (by rintro rfl; simp at hk)
  obtain ⟨cs, ⟨c1, c2, rfl, ⟨rfl, _⟩, ⟨rfl, _⟩⟩, hc⟩ := h.at hk
  exact ⟨g, cap, rfl, by simpa [rRLo, Rd.pair, Rd.int, Rd.str] using hc 0 _ rfl, by simpa [rRLo, Rd.pair, Rd.int, Rd.str] using hc 1 _ rfl⟩
theorem bytes_cell {w : World} {g : Nat} {l : List UInt8} (h : Bytes w g l) {j : Nat} {u : Value} (hu : (Cs l)[j]? = some u) : w.cell? ⟨g, 0 + j, none⟩ = some u := by
  have hj : j < l.length := by have := (List.getElem?_eq_some_iff.1 hu).1; rwa [cs_len] at this
  rw [Nat.zero_add, h.cell j hj]
  simpa [Lib.byteCells, hj, List.getD_eq_getElem?_getD] using hu
theorem own_bytes {w : World} {base g n cap : Nat} {e : TypeId} {l : List UInt8} (h : w.ownsRow base e 1 (.slice (some ⟨g, 0, none⟩) n cap) n (Cs l)) : Bytes w g l := by
  intro j hj
  refine ⟨?_, h.frozenAt j⟩
  have := h.cells (g := g) rfl j (.int .u8 ((l.getD j 0).toNat : Int)) (by simp [Lib.byteCells, hj, List.getD_eq_getElem?_getD])
  rw [Addr.add_mid, Nat.zero_add] at this
  exact this
theorem made_row (w : World) (base : Nat) (hb : base ≤ w.heap.size) : (w.alloc (.cells #[] 5)).ownsRow base 5 1 (.slice (some ⟨w.heap.size, 0, none⟩) 0 0) 0 [] :=
  World.ownsRow_made w #[] 0 hb (by simp [maxLen]) (by simp)
set_option maxHeartbeats 1000000 in
set_option maxRecDepth 100000 in
theorem image_ref {base : Nat} {w : World} {R : RF} {rs : RSt} (h : RRaw base w R rs) (hll : rs.L.length ≤ 1000000000) : Calls Tryd.prog 33 #[.pointer (some ⟨R.b, 0, none⟩)] w (StrPost (imageB (rno rs)) w) := by
  obtain ⟨c0, c1, _, _, _⟩ := h.cells
  obtain ⟨i0, hi, hz0, hz1, hz2⟩ := info_parts u8_row
  have H := Lib.hid h
  have hn1 := h.n1
  have hn2 := h.n2
  have HI := Lib.hid hi
  have HZ0 := Lib.hid hz0
  have HZ1 := Lib.hid hz1
  have HZ2 := Lib.hid hz2
  have HF := Lib.hid (flat_len h.s64)
  obtain ⟨ao, lcap, elv⟩ := h.own2.form
  rw [elv] at c1
  have HLV := Lib.hid elv
  have hgb := h.lt.1
  have hgg := h.lt.2.1
  have HC0 := Lib.hid (show (w.alloc (.cells #[] 5)).cell? ⟨R.b, 0, none⟩ = _ from (((Below.refl _ w).alloc (Nat.le_refl _) _).cell (p := ⟨R.b, 0, none⟩) hgb).trans c0)
  clear h hi hz0 hz1 hz2 elv
  go_enter Tryd.func33, Tryd.ntmps33
  go_wp2_with (at_builtin; refine wpList_append2 rfl _ _ 32 rfl w.heap.size 5 i0 (.int .u8 0) 1 1 Tryd.underlying32 HI.out HZ0.out HZ1.out HZ2.out rfl (by decide) _ 0 [] rfl (made_row w _ (Nat.le_refl _)) (some ⟨R.g, 0, none⟩) (64 * rs.su.length) R.cap (Cs rs.su.flatten) rfl (by intro h; cases h) (by rw [cs_len, HF.out]; omega) (fun a ha j u hu => by
      injection ha with ha; subst ha
      rw [Addr.add_mid]
      refine (((Below.refl _ w).alloc (Nat.le_refl _) _).cell (p := ⟨R.g, 0 + j, none⟩) hgg).trans ?_
      exact bytes_cell H.out.own1 hu) (cs_one _) (by unfold maxLen; omega) (by omega) (by simp) ?_; intro v2 w2 hO2 hg2 _ hw2; rw [List.nil_append, Nat.zero_add] at hO2)
  obtain ⟨g2, cap2, rfl⟩ : ∃ g2 cap2, v2 = .slice (some ⟨g2, 0, none⟩) (64 * rs.su.length) cap2 := by
    rcases hO2.2 with ⟨e1, e2⟩ | ⟨g, cap', cur, e1, _⟩
    · omega
    · exact ⟨g, cap', e1⟩
  have hgr := hO2.lt g2 rfl
  have hB2 : Below w.heap.size w w2 := (Kept.alloc (fun k => w.heap.size ≤ k) w _).trans (Kept.of_grown hg2) (fun _ _ h => h) (fun k _ e => by injection e with e; exact Nat.le_of_eq e.symm) |>.below (Nat.le_refl _) (fun k h => h)
  have hby := own_bytes hO2
  have HL0 := Lib.hid (show Bytes w2 g2 (setAll ((rs.L.take 0).map toWr) rs.su).flatten from hby)
  clear hO2 hg2 hw2 hby c0 c1
  go_loopw [4] (fun v4 wr => ∃ k : Nat, k ≤ rs.L.length ∧ v4 = .int .i64 k ∧ Hid (Bytes wr g2 (setAll ((rs.L.take k).map toWr) rs.su).flatten) ∧ Below w.heap.size w wr ∧ g2 < wr.heap.size) (fun v4 _ => rs.L.length - (intOf v4).toNat)
  case atStart => exact ⟨0, by omega, rfl, HL0, hB2, hgr.2⟩
  case round =>
    obtain ⟨k, hk, rfl, hBy, hB, hgl⟩ := hrel
    have HR := Lib.hid (H.out.below hB)
    obtain ⟨d0, d1, _, _, _⟩ := HR.out.cells
    rw [HLV.out] at d1
    have hsl : (setAll ((rs.L.take k).map toWr) rs.su).length = rs.su.length := setAll_len _ _
    have h64 : ∀ d ∈ setAll ((rs.L.take k).map toWr) rs.su, d.length = 64 := no64 H.out.s64 (fun x hx => by
      obtain ⟨y, hy, rfl⟩ := List.mem_map.1 hx
      exact pad_len (H.out.lat y (List.mem_of_mem_take hy)).2.2)
    by_cases hkl : k < rs.L.length
    · obtain ⟨x, hx⟩ := some_at hkl
      obtain ⟨g3, cap3, e3, y0, y1⟩ := rlo_get HR.out.own2 hx
      obtain ⟨rfl, rfl⟩ : ao = some ⟨g3, 0, none⟩ ∧ cap3 = lcap := by rw [HLV.out] at e3; injection e3 with a b c; exact ⟨a, c.symm⟩
      obtain ⟨hx0, hx1, hx2⟩ := H.out.lat x (List.mem_of_getElem? hx)
      obtain ⟨a, ha⟩ : ∃ a : Nat, x.1 = (a : Int) := ⟨x.1.toNat, by omega⟩
      rw [ha] at y0
      have hal : a < rs.su.length := by omega
      obtain ⟨y, hy⟩ := some_at (l := setAll ((rs.L.take k).map toWr) rs.su) (k := a) (by rw [hsl]; exact hal)
      have hpf := putB_flat (f := 0) (k := 64) h64 hy (by omega) hx2
      rw [spl_full (h64 y (List.mem_of_getElem? hy)) hx2] at hpf
      have hnx : (setAll ((rs.L.take k).map toWr) rs.su).set a (pad x.2) = setAll ((rs.L.take (k + 1)).map toWr) rs.su := by
        rw [take_at2 hx, List.map_append, List.map_cons, List.map_nil, setAll_snoc]
        simp [toWr, ha]
      rw [hnx] at hpf
      have HPF := Lib.hid hpf
      have HFL := Lib.hid (show (setAll ((rs.L.take k).map toWr) rs.su).flatten.length = 64 * rs.su.length by rw [flat_len h64, hsl])
      have hkl2 : (k : Int) < (rs.L.length : Int) := by omega
      have hlim : k ≤ 1000000000 := by omega
      clear hpf hnx hy hx ha hx0 hx1 e3 hsl h64
      go_wp2_with (go_at_call 55; refine (put_ref (f := 0) (l := 64) (a := a) (s := x.2) hBy.out HFL.out hgl hx2 (by omega) (Nat.le_refl _) (by omega) (by omega)).mono ?_; rintro e w4 ⟨rfl, hB4, hK4⟩)
      go_roundw
      case measure => simp [intOf]; omega
      case rel =>
        refine ⟨k + 1, by omega, by go_num, Lib.hid (by rw [← HPF.out]; exact hB4), hB.trans (hK4.below hB.size (fun j hj => by subst hj; exact hgr.1)), Nat.lt_of_lt_of_le hgl hK4.size⟩
    · obtain rfl : k = rs.L.length := by omega
      rw [List.take_length] at hBy hsl h64
      have hst := Bytes.string (P := Tryd.prog) hBy.out 32 9 5 cap2 (64 * rs.su.length) (by rw [flat_len h64, hsl]) Tryd.underlying32 Tryd.underlying5 Tryd.underlying9
      have HH := Lib.hid hsl
      clear hsl h64
      go_wp2_with fail
      go_ret
      exact ⟨rfl, hB⟩
end Go.Proofs.YtaljgcdjkmpljaaDoor

/- The reference's plate: Get, New. -/
namespace Go.Proofs.YtaljgcdjkmpljaaDoor
open Go.RowKit Lift
set_option linter.unusedSimpArgs false
set_option linter.unusedVariables false

def rthereE (rs : RSt) (x : Int) : Int := if rs.off then 12 else if x < 0 ∨ (rs.su.length : Int) ≤ x then 2 else 0
def rgetV (rs : RSt) (x : Int) : Value := if rthereE rs x = 0 then .tuple #[.string ⟨((rno rs).getD x.toNat []).toArray⟩, .int .i64 0] else .tuple #[.string ⟨#[]⟩, .int .i64 (rthereE rs x)]
theorem put_one {y : List UInt8} {s : ByteArray} (hy : y.length = 64) (hs : s.size ≤ 64) : putB y (64 * 0) s 0 64 = pad s := by
  have := putB_flat (l := [y]) (a := 0) (f := 0) (k := 64) (y := y) (s := s) (by simp [hy]) rfl (by omega) hs
  rw [spl_full hy hs] at this
  simpa using this
set_option maxHeartbeats 1000000 in
set_option maxRecDepth 100000 in
theorem get_ref {base : Nat} {w : World} {R : RF} {rs : RSt} (h : RRaw base w R rs) (x : Int) (hll : rs.L.length ≤ 1000000000) : Calls Tryd.prog 57 #[.pointer (some ⟨R.b, 0, none⟩), .int .i64 x] w (BelowPost (rgetV rs x) w) := by
  obtain ⟨c0, c1, _, _, c4⟩ := h.cells
  have HS := Lib.hid (size_ref h)
  cases ho : rs.off with
  | true =>
    rw [ho] at c4
    have e : rgetV rs x = .tuple #[.string ⟨#[]⟩, .int .i64 12] := by simp [rgetV, rthereE, ho]
    rw [e]
    clear ho h e
    go_enter Tryd.func57, Tryd.ntmps57
    go_wp2_with fail
    go_ret2
    exact ⟨rfl, Below.refl _ _⟩
  | false =>
    rw [ho] at c4
    by_cases h0 : x < 0
    · have hd : decide (x < 0) = true := by simpa using h0
      have e : rgetV rs x = .tuple #[.string ⟨#[]⟩, .int .i64 2] := by simp [rgetV, rthereE, ho, h0]
      rw [e]
      clear ho h e h0
      go_enter Tryd.func57, Tryd.ntmps57
      go_wp2_with fail
      go_ret2
      exact ⟨rfl, Below.refl _ _⟩
    · have hd : decide (x < 0) = false := by simpa using h0
      by_cases h1 : (rs.su.length : Int) ≤ x
      · have hd1 : decide ((rs.su.length : Int) ≤ x) = true := by simpa using h1
        have e : rgetV rs x = .tuple #[.string ⟨#[]⟩, .int .i64 2] := by simp [rgetV, rthereE, ho, h1]
        rw [e]
        clear ho h e h0 h1
        go_enter Tryd.func57, Tryd.ntmps57
        go_wp2_with ((with_reducible refine (HS.out).mono ?_); rintro e w' ⟨rfl, rfl⟩)
        go_ret2
        exact ⟨rfl, Below.refl _ _⟩
      · obtain ⟨a, rfl⟩ : ∃ a : Nat, x = (a : Int) := ⟨x.toNat, by omega⟩
        have hal : a < rs.su.length := by omega
        have hd1 : decide (rs.su.length ≤ a) = false := by simp; omega
        have hd1i : decide ((rs.su.length : Int) ≤ (a : Int)) = false := by simp; omega
        have e : rgetV rs a = .tuple #[.string ⟨((rno rs).getD a []).toArray⟩, .int .i64 0] := by
          have : rthereE rs a = 0 := by unfold rthereE; rw [ho, if_neg (by simp), if_neg (by omega)]
          simp [rgetV, this]
        rw [e]
        obtain ⟨y, hy⟩ := some_at hal
        have hy64 := h.s64 y (List.mem_of_getElem? hy)
        obtain ⟨i0, hi, hz0, hz1, hz2⟩ := info_parts u8_row
        have H := Lib.hid h
        have hn1 := h.n1
        have hn2 := h.n2
        have hcap := h.hcap
        have hcm := h.hcm
        have HI := Lib.hid hi
        have HZ0 := Lib.hid hz0
        have HZ1 := Lib.hid hz1
        have HZ2 := Lib.hid hz2
        obtain ⟨ao, lcap, elv⟩ := h.own2.form
        rw [elv] at c1
        have HLV := Lib.hid elv
        have hgb := h.lt.1
        have hgg := h.lt.2.1
        have HC0 := Lib.hid (show (w.alloc (.cells #[] 5)).cell? ⟨R.b, 0, none⟩ = _ from (((Below.refl _ w).alloc (Nat.le_refl _) _).cell (p := ⟨R.b, 0, none⟩) hgb).trans c0)
        have HNW := Lib.hid (show ∀ j u, (Cs y)[j]? = some u → (w.alloc (.cells #[] 5)).cell? ⟨R.g, 64 * a + j, none⟩ = some u from fun j u hu => by
          refine (((Below.refl _ w).alloc (Nat.le_refl _) _).cell (p := ⟨R.g, 64 * a + j, none⟩) hgg).trans ?_
          have hj : j < 64 := by have := (List.getElem?_eq_some_iff.1 hu).1; rw [cs_len, hy64] at this; exact this
          have hfl : (rs.su.flatten)[64 * a + j]? = y[j]? := by rw [flat_get a j H.out.s64 hj, hy]; rfl
          have hu2 : (Cs rs.su.flatten)[64 * a + j]? = some u := by
            simp only [Lib.byteCells, List.getElem?_map] at hu ⊢
            rw [hfl]; exact hu
          have := bytes_cell H.out.own1 hu2
          rwa [Nat.zero_add] at this)
        have ha1 : (a : Int) ≤ 8192 := by omega
        have hca : ¬ R.cap = 64 * a := by omega
        have HA := Lib.hid (show 64 * a + 64 - 64 * a = 64 by omega)
        have hca2 : (64 : Int) * (a : Int) + 64 ≤ (R.cap : Int) := by omega
        have hca3 : 64 * a + 64 ≤ R.cap := by omega
        have HY := Lib.hid hy
        have HY64 := Lib.hid hy64
        unfold maxLen at hcm
        clear ho h e h0 h1 hi hz0 hz1 hz2 elv hy hy64
        go_enter Tryd.func57, Tryd.ntmps57
        go_wp2_with (first
          | ((with_reducible refine (HS.out).mono ?_); rintro e w' ⟨rfl, rfl⟩)
          | (at_builtin; refine wpList_append2 rfl _ _ 32 rfl w.heap.size 5 i0 (.int .u8 0) 1 1 Tryd.underlying32 HI.out HZ0.out HZ1.out HZ2.out rfl (by decide) _ 0 [] rfl (made_row w _ (Nat.le_refl _)) (some ⟨R.g, 64 * a, none⟩) (64 * a + 64 - 64 * a) _ (Cs y) rfl (by intro h; cases h) (by rw [cs_len, HY64.out]; omega) (fun a ha j u hu => by injection ha with ha; subst ha; rw [Addr.add_mid]; exact HNW.out j u hu) (cs_one _) (by unfold maxLen; omega) (by omega) (by simp) ?_; intro v2 w2 hO2 hg2 _ hw2; rw [List.nil_append, Nat.zero_add, HA.out] at hO2))
        obtain ⟨g2, cap2, rfl⟩ : ∃ g2 cap2, v2 = .slice (some ⟨g2, 0, none⟩) 64 cap2 := by
          rcases hO2.2 with ⟨e1, e2⟩ | ⟨g, cap', cur, e1, _⟩
          · omega
          · exact ⟨g, cap', e1⟩
        have hgr := hO2.lt g2 rfl
        have hB2 : Below w.heap.size w w2 := (Kept.alloc (fun k => w.heap.size ≤ k) w _).trans (Kept.of_grown hg2) (fun _ _ h => h) (fun k _ e => by injection e with e; exact Nat.le_of_eq e.symm) |>.below (Nat.le_refl _) (fun k h => h)
        have HL0 := Lib.hid (show Bytes w2 g2 ((setAll ((rs.L.take 0).map toWr) rs.su).getD a []) by
          show Bytes w2 g2 (rs.su.getD a [])
          rw [List.getD_eq_getElem?_getD, HY.out]
          exact own_bytes hO2)
        clear hO2 hg2 hw2 c0 c1 hca hca2 hca3
        go_loopw [7] (fun v7 wr => ∃ k : Nat, k ≤ rs.L.length ∧ v7 = .int .i64 k ∧ Hid (Bytes wr g2 ((setAll ((rs.L.take k).map toWr) rs.su).getD a [])) ∧ Below w.heap.size w wr ∧ g2 < wr.heap.size) (fun v7 _ => rs.L.length - (intOf v7).toNat)
        case atStart => exact ⟨0, by omega, rfl, HL0, hB2, hgr.2⟩
        case round =>
          obtain ⟨k, hk, rfl, hBy, hB, hgl⟩ := hrel
          have HR := Lib.hid (H.out.below hB)
          obtain ⟨d0, d1, _, _, _⟩ := HR.out.cells
          rw [HLV.out] at d1
          have hsl : (setAll ((rs.L.take k).map toWr) rs.su).length = rs.su.length := setAll_len _ _
          have h64 : ∀ d ∈ setAll ((rs.L.take k).map toWr) rs.su, d.length = 64 := no64 H.out.s64 (fun x hx => by
            obtain ⟨y, hy, rfl⟩ := List.mem_map.1 hx
            exact pad_len (H.out.lat y (List.mem_of_mem_take hy)).2.2)
          obtain ⟨z, hz⟩ := some_at (l := setAll ((rs.L.take k).map toWr) rs.su) (k := a) (by rw [hsl]; exact hal)
          have hz64 := h64 z (List.mem_of_getElem? hz)
          have hzd : (setAll ((rs.L.take k).map toWr) rs.su).getD a [] = z := by rw [List.getD_eq_getElem?_getD, hz]; rfl
          rw [hzd] at hBy
          by_cases hkl : k < rs.L.length
          · obtain ⟨x, hx⟩ := some_at hkl
            obtain ⟨g3, cap3, e3, y0, y1⟩ := rlo_get HR.out.own2 hx
            obtain ⟨rfl, rfl⟩ : ao = some ⟨g3, 0, none⟩ ∧ cap3 = lcap := by rw [HLV.out] at e3; injection e3 with a b c; exact ⟨a, c.symm⟩
            obtain ⟨hx0, hx1, hx2⟩ := H.out.lat x (List.mem_of_getElem? hx)
            have HNX := Lib.hid (show (setAll ((rs.L.take (k + 1)).map toWr) rs.su).getD a [] = if x.1.toNat = a then pad x.2 else z by
              rw [take_at2 hx, List.map_append, List.map_cons, List.map_nil, setAll_snoc]
              simp only [toWr, List.getD_eq_getElem?_getD]
              by_cases e : x.1.toNat = a
              · rw [if_pos e, e, List.getElem?_set_self (by rw [hsl]; exact hal)]; rfl
              · rw [if_neg e, List.getElem?_set_ne e, hz]; rfl)
            have hkl2 : (k : Int) < (rs.L.length : Int) := by omega
            have hlim : k ≤ 1000000000 := by omega
            have HP := Lib.hid (put_one hz64 hx2)
            clear hx e3 hsl h64 hz hzd
            by_cases hxa : x.1 = (a : Int)
            · have hq : (x.1 == (a : Int)) = true := by simpa using hxa
              rw [hxa] at y0
              have hxt : x.1.toNat = a := by omega
              have HXT := Lib.hid hxt
              clear hxa hx0 hx1 hq hxt
              go_wp2_with (go_at_call 55; refine (put_ref (f := 0) (l := 64) (a := 0) (s := x.2) hBy.out hz64 hgl hx2 (by omega) (Nat.le_refl _) (by omega) (by omega)).mono ?_; rintro e w4 ⟨rfl, hB4, hK4⟩)
              go_roundw
              case measure => simp [intOf]; omega
              case rel =>
                refine ⟨k + 1, by omega, by go_num, Lib.hid (by rw [HNX.out, if_pos HXT.out, ← HP.out]; exact hB4), hB.trans (hK4.below hB.size (fun j hj => by subst hj; exact hgr.1)), Nat.lt_of_lt_of_le hgl hK4.size⟩
            · have hq : (x.1 == (a : Int)) = false := by simpa using hxa
              have HXT := Lib.hid (show ¬ x.1.toNat = a by omega)
              clear hxa hx0 hx1
              go_wp2_with fail
              go_roundw
              case measure => simp [intOf]; omega
              case rel =>
                refine ⟨k + 1, by omega, by go_num, Lib.hid (by rw [HNX.out, if_neg HXT.out]; exact hBy.out), hB, hgl⟩
          · obtain rfl : k = rs.L.length := by omega
            rw [List.take_length] at hzd
            have hst := Bytes.string (P := Tryd.prog) hBy.out 32 9 5 cap2 64 hz64.symm Tryd.underlying32 Tryd.underlying5 Tryd.underlying9
            have HZ := Lib.hid (show (rno rs).getD a [] = z from hzd)
            clear hsl h64 hz hzd hz64
            go_wp2_with fail
            go_ret2
            refine ⟨?_, hB⟩
            have := HZ.out
            rw [List.getD_eq_getElem?_getD] at this
            simp [this]
end Go.Proofs.YtaljgcdjkmpljaaDoor

/- The reference's plate: New, Sync, Crash. -/
namespace Go.Proofs.YtaljgcdjkmpljaaDoor
open Go.RowKit Lift
set_option linter.unusedSimpArgs false
set_option linter.unusedVariables false

def RSt.new (n : Nat) : RSt := { su := List.replicate n zer, L := [], fz := false, n := 0, off := false }
theorem zer_flat (n : Nat) : (List.replicate n zer).flatten = List.replicate (n * 64) 0 := by
  unfold zer; rw [List.flatten_replicate_replicate]
def RNewPost (rs : RSt) (w : World) (e : Ending) (w' : World) : Prop := ∃ R, e = .returned (.tuple #[.pointer (some ⟨R.b, 0, none⟩), .int .i64 0]) ∧ RRaw w.heap.size w' R rs ∧ Below w.heap.size w w'
theorem rnew_no (w : World) (x : Int) (h : x < 1 ∨ 8192 < x) : Calls Tryd.prog 22 #[.int .i64 x] w (fun e w' => e = .returned (.tuple #[.pointer none, .int .i64 2]) ∧ w = w') := by
  by_cases h1 : x < 1
  · have hd1 : decide (x < 1) = true := by simpa using h1
    go_enter Tryd.func22, Tryd.ntmps22
    go_wp2_with fail
    go_ret2
    exact ⟨rfl, rfl⟩
  · have hd1 : decide (x < 1) = false := by simpa using h1
    have hd2 : decide (8192 < x) = true := by simp; omega
    clear h h1
    go_enter Tryd.func22, Tryd.ntmps22
    go_wp2_with fail
    go_ret2
    exact ⟨rfl, rfl⟩
set_option maxHeartbeats 1000000 in
set_option maxRecDepth 100000 in
theorem new_ref (w : World) (n : Nat) (h1 : 1 ≤ n) (h2 : n ≤ 8192) : Calls Tryd.prog 22 #[.int .i64 (n : Int)] w (RNewPost (RSt.new n) w) := by
  have hd1 : decide ((n : Int) < 1) = false := by simp; omega
  have hd2 : decide ((8192 : Int) < (n : Int)) = false := by simp; omega
  obtain ⟨i0, hi, hz0, hz1, hz2⟩ := info_parts u8_row
  have HI := Lib.hid hi
  have HZ0 := Lib.hid hz0
  have HZ1 := Lib.hid hz1
  have HZ2 := Lib.hid hz2
  have hn : (n : Int) ≤ 8192 := by omega
  clear hi hz0 hz1 hz2
  go_enter Tryd.func22, Tryd.ntmps22
  go_wp2_with (at_make; refine wpList_make_full _ rfl _ _ 32 rfl w.heap.size 5 i0 (.int .u8 0) 1 Tryd.underlying32 HI.out HZ0.out HZ1.out _ _ _ _ (64 * n) rfl rfl (by omega) (by omega) (by rw [HZ2.out]; omega) (by unfold maxLen; omega) (Nat.le_refl _) ?_; intro w5 hO5 hg5)
  go_ret2
  have hb5 : Below w.heap.size w w5 := (Kept.of_grown hg5).below (Nat.le_refl _) (fun k e => by cases e)
  have hlt : w.heap.size < w5.heap.size := (hO5.lt _ rfl).2
  have hO6 : w5.ownsRow w.heap.size 5 1 (.slice (some ⟨w.heap.size, 0, none⟩) (64 * n) (64 * n)) (64 * n) (Cs (List.replicate n zer).flatten) := by
    rw [zer_flat]
    have e : Cs (List.replicate (n * 64) 0) = (madeCells #[Value.int .u8 0] (64 * n * 1)).toList := by
      have : (madeCells #[Value.int .u8 0] (64 * n * 1)).toList = List.replicate (64 * n * 1) (.int .u8 0) := by
        apply List.ext_getElem
        · simp [madeCells]
        · intro i h1 h2
          simp [madeCells, Nat.mod_one]
      rw [this]
      simp only [Lib.byteCells, List.map_replicate]
      rw [show n * 64 = 64 * n * 1 by omega]
      rfl
    rw [e]
    exact hO5
  refine ⟨⟨w5.heap.size, w.heap.size, 64 * n, .slice none 0 0⟩, rfl, ?_, hb5.alloc (by have := hb5.size; omega) _⟩
  have hal : Below w5.heap.size w5 (w5.alloc (.cells #[.slice (some ⟨w.heap.size, 0, none⟩) (64 * n) (64 * n), .slice none 0 0, .bool false, .int .i64 0, .bool false] 67)) := (Below.refl _ _).alloc (Nat.le_refl _) _
  exact {
    n1 := by simpa [RSt.new] using h1
    n2 := by simpa [RSt.new] using h2
    s64 := by intro d hd; rw [List.eq_of_mem_replicate hd]; exact zer_len
    nw := Wf.of (by show _ ≤ (0 : Int); omega) (by show (0 : Int) ≤ _; omega)
    lat := by simp [RSt.new]
    blk := by simpa [rfCells, RSt.new] using heap_alloc_new w5 _
    own1 := by
      show Bytes _ w.heap.size (List.replicate n zer).flatten
      exact (own_bytes hO6).keep hal hlt
    gb := Nat.le_refl _
    gl := by simp; omega
    hcap := by simp [RSt.new]
    hcm := by show 64 * n ≤ _; unfold maxLen; omega
    own2 := Own.nil _ _ _ _ _
    bb := by have := hb5.size; exact this
    a1 := by show w.heap.size ≠ w5.heap.size; omega
    a2 := by simp [Value.ownBlock]
    a3 := by simp [Value.ownBlock] }

def rsyncE (rs : RSt) : Int := if rs.off then 12 else stepE rs
def rsyncS (rs : RSt) : RSt := if rs.off then rs else if stepE rs = 0 then { stepS rs with su := rno rs, L := [] } else stepS rs
theorem imageB_size {no : Secs} (h : ∀ d ∈ no, d.length = 64) : (imageB no).size = 64 * no.length := by
  show no.flatten.length = _; exact flat_len h
theorem RRaw.no64 {base : Nat} {w : World} {R : RF} {rs : RSt} (h : RRaw base w R rs) : ∀ d ∈ rno rs, d.length = 64 :=
  Proofs.YtaljgcdjkmpljaaDoor.no64 h.s64 (fun x hx => by
    obtain ⟨y, hy, rfl⟩ := List.mem_map.1 hx
    exact pad_len (h.lat y hy).2.2)
theorem rno_len (rs : RSt) : (rno rs).length = rs.su.length := setAll_len _ _
theorem sync_end {base : Nat} {w w1 w2 W3 : World} {R R1 : RF} {rs1 : RSt} (h : RRaw base w1 R1 rs1) (hb : R1.b = R.b) (hf : ∀ k, rfoot R1 k → rfoot R k ∨ w.heap.size ≤ k) (hK : Kept (rfoot R) w w1) (hB2 : Below w1.heap.size w1 w2)
    (hBy : Bytes W3 w2.heap.size (imageB (rno rs1)).data.toList) (hB3 : Below w2.heap.size w2 W3) (hs : W3.heap.size = w2.heap.size + 1) (v : Value) :
    RfPost base R { rs1 with su := rno rs1, L := [] } v w (.returned v) ((W3.setCell ⟨R.b, 0, none⟩ (.slice (some ⟨w2.heap.size, 0, none⟩) (imageB (rno rs1)).size (grownCap w2 (imageB (rno rs1)).size 0 5))).setCell ⟨R.b, 1, none⟩ (.slice none 0 0)) := by
  rw [← hb]
  have h3 := (h.below hB2).below hB3
  have hlt := h.lt
  have s2 := hB2.size
  have hsz : (imageB (rno rs1)).size = 64 * (rno rs1).length := imageB_size h.no64
  have hk3 : Kept (fun k => k = R1.b) W3 ((W3.setCell ⟨R1.b, 0, none⟩ (.slice (some ⟨w2.heap.size, 0, none⟩) (imageB (rno rs1)).size (grownCap w2 (imageB (rno rs1)).size 0 5))).setCell ⟨R1.b, 1, none⟩ (.slice none 0 0)) :=
    ((Kept.refl (fun k => k = R1.b) W3).set (p := ⟨R1.b, 0, none⟩) rfl).set (p := ⟨R1.b, 1, none⟩) rfl
  refine ⟨⟨R1.b, w2.heap.size, grownCap w2 (imageB (rno rs1)).size 0 5, .slice none 0 0⟩, rfl, ?_, hb, ?_, ?_⟩
  · exact {
      n1 := by show 1 ≤ (rno rs1).length; rw [rno_len]; exact h.n1
      n2 := by show (rno rs1).length ≤ _; rw [rno_len]; exact h.n2
      s64 := h.no64
      nw := h.nw
      lat := by simp
      blk := by
        rw [heap_setCell_same _ _ 1 _ _ _ (heap_setCell_same W3 _ 0 _ _ _ h3.blk), hsz]
        rfl
      own1 := hBy.kept hk3 (by omega) (by omega)
      gb := by have := h.base_le; show base ≤ w2.heap.size; omega
      gl := by simp; omega
      hcap := Nat.le_trans (Nat.le_of_eq hsz.symm) (grownCap_ge w2 (imageB (rno rs1)).size 0 5)
      hcm := grownCap_le_maxLen w2 (imageB (rno rs1)).size 0 5 (by have := h.n2; have := rno_len rs1; unfold maxLen; omega)
      own2 := Own.nil _ _ _ _ _
      bb := h.bb
      a1 := by show w2.heap.size ≠ R1.b; omega
      a2 := by simp [Value.ownBlock]
      a3 := by simp [Value.ownBlock] }
  · rintro k (rfl | rfl | hk)
    · exact hf _ (.inl rfl)
    · exact .inr (by have := hK.size; show w.heap.size ≤ w2.heap.size; omega)
    · cases hk
  · have hk1 : Kept (rfoot R) w W3 := (hK.step hB2).step hB3
    have hx : rfoot R R1.b := .inl hb
    exact (hk1.set (p := ⟨R1.b, 0, none⟩) hx).set (p := ⟨R1.b, 1, none⟩) hx
set_option maxHeartbeats 1000000 in
set_option maxRecDepth 100000 in
theorem sync_ref {base : Nat} {w : World} {R : RF} {rs : RSt} (h : RRaw base w R rs) (hn : rs.fz = true → 0 ≤ rs.n) (hll : rs.L.length ≤ 1000000000) :
    Calls Tryd.prog 49 #[.pointer (some ⟨R.b, 0, none⟩)] w (RfPost base R (rsyncS rs) (.int .i64 (rsyncE rs)) w) := by
  have c4 := h.cells.2.2.2.2
  have HB := Lib.hid (step_ref h hn)
  have H := Lib.hid h
  have hk := Kept.refl (rfoot R) w
  unfold rsyncS rsyncE
  cases ho : rs.off with
  | true =>
    rw [ho] at c4
    simp only [↓reduceIte]
    clear ho h hn
    go_enter Tryd.func49, Tryd.ntmps49
    go_wp2_with fail
    go_ret
    exact RfPost.same rfl H.out hk
  | false =>
    rw [ho] at c4
    simp only [↓reduceIte, Bool.false_eq_true]
    by_cases hb : stepE rs = 0
    · simp only [hb, ↓reduceIte]
      rw [hb] at HB
      have hrn : rno rs = rno (stepS rs) := by unfold rno; rw [stepS_same.1, stepS_same.2]
      have hll1 : (stepS rs).L.length ≤ 1000000000 := by rw [stepS_same.2]; exact hll
      rw [hrn]
      generalize stepS rs = rs1 at *
      clear ho h hn hb hrn
      go_enter Tryd.func49, Tryd.ntmps49
      go_wp2_with (first
        | ((with_reducible refine (HB.out).mono ?_); rintro e w1 ⟨R1, rfl, hR1, hb1, hf1, hK1⟩; have HR1 := Lib.hid hR1; have HB1 := Lib.hid hb1; have him := image_ref hR1 hll1; rw [hb1] at him; have HIM := Lib.hid him; clear hR1 hb1 him)
        | ((with_reducible refine (HIM.out).mono ?_); rintro e w2 ⟨rfl, hB2⟩; have HR2 := Lib.hid (HR1.out.below hB2);
           have hcv := Lib.run_convert_string_bytes (P := Tryd.prog) w2 9 32 5 (imageB (rno rs1)) Tryd.underlying9 Tryd.underlying32 Tryd.underlying5;
           obtain ⟨W3, hW3⟩ : ∃ W3, Lib.bytesWorld w2 5 (imageB (rno rs1)) = W3 := ⟨_, rfl⟩;
           have hBy := bytes_new w2 5 (imageB (rno rs1)); have hB3 := Lib.bytesWorld_below w2 5 (imageB (rno rs1)); have hsz := Lib.bytesWorld_size w2 5 (imageB (rno rs1));
           rw [hW3] at hcv hBy hB3 hsz; clear hW3; have hR3 := HR2.out.below hB3;
           obtain ⟨c0, c1, _, _, _⟩ := hR3.cells; have f0 := hR3.free 0; have f1 := hR3.free 1; rw [HB1.out] at c0 c1 f0 f1;
           have HR3 := Lib.hid hR3; have HBY := Lib.hid hBy; have HS := Lib.hid hsz; clear hR3 hBy hsz))
      go_ret
      exact sync_end HR1.out HB1.out hf1 hK1 hB2 HBY.out hB3 HS.out _
    · have hne : (stepE rs == 0) = false := by simpa using hb
      simp only [hb, ↓reduceIte]
      generalize stepE rs = y at *
      clear ho h hn hb
      go_enter Tryd.func49, Tryd.ntmps49
      go_wp2_with ((with_reducible refine (HB.out).mono ?_); rintro e w1 ⟨R1, rfl, hR1, hb1, hf1, hK1⟩)
      go_ret
      exact ⟨R1, rfl, hR1, hb1, hf1, hK1⟩

def rcrashS (rs : RSt) (keep : List Int) : RSt := { su := tearL keep 0 (rs.L.map toWr) rs.su, L := [], fz := false, n := rs.n, off := false }
theorem RRaw.put {base : Nat} {w w' : World} {R : RF} {rs : RSt} {su : Secs} (h : RRaw base w R rs) (hB : Bytes w' R.g su.flatten) (hK : Kept (fun k => k = R.g) w w') (hl : su.length = rs.su.length) (h64 : ∀ d ∈ su, d.length = 64) : RRaw base w' R { rs with su := su } where
  n1 := by rw [hl]; exact h.n1
  n2 := by rw [hl]; exact h.n2
  s64 := h64
  nw := h.nw
  lat := by rw [hl]; exact h.lat
  blk := by
    rw [(hK.block R.b h.lt.1 (fun e => h.a1 e.symm)).trans h.blk]
    simp [rfCells, hl]
  own1 := hB
  gb := h.gb
  gl := Nat.lt_of_lt_of_le h.gl hK.size
  hcap := by rw [hl]; exact h.hcap
  hcm := h.hcm
  own2 := h.own2.flat rlo_flat hK (fun k e hh => by subst hh; exact h.a3 e)
  bb := h.bb
  a1 := h.a1
  a2 := h.a2
  a3 := h.a3
theorem spl_tear1 {y : List UInt8} {s : ByteArray} {k : Nat} (hy : y.length = 64) (hs : s.size ≤ 64) (hk : k ≤ 64) : spl y s 0 k = tear y (pad s) k := by
  unfold spl tear
  rw [if_pos hk]
  simp
theorem spl_tear2 {y : List UInt8} {s : ByteArray} {k f : Nat} (hy : y.length = 64) (hs : s.size ≤ 64) (hk : 64 < k) (hf : f = 128 - k) : spl y s f (64 - f) = tear y (pad s) k := by
  have hp := pad_len hs
  unfold spl tear
  rw [if_neg (by omega), ← hf, List.take_of_length_le (l := (pad s).drop f) (by simp; omega), List.drop_of_length_le (l := y) (by omega), List.append_nil]
theorem tearL64 {keep : List Int} : ∀ {lo : List Wr} {j : Nat} {b : Secs}, (∀ d ∈ b, d.length = 64) → (∀ x ∈ lo, x.2.length = 64 ∧ x.1 < b.length) → ∀ d ∈ tearL keep j lo b, d.length = 64
  | [], j, b, hb, _ => hb
  | x :: r, j, b, hb, hx => by
    unfold tearL
    obtain ⟨h64, hlt⟩ := hx x (by simp)
    refine tearL64 (fun d hd => ?_) (fun y hy => by rw [List.length_set]; exact hx y (List.mem_cons_of_mem _ hy))
    rcases List.mem_or_eq_of_mem_set hd with hd | rfl
    · exact hb d hd
    · refine tear_len ?_ h64
      rw [List.getD_eq_getElem?_getD, List.getElem?_eq_getElem hlt]
      exact hb _ (List.getElem_mem hlt)
theorem kept_sets2 {X : Nat → Prop} {a b : World} (h : Kept X a b) {g : Nat} {b' : World} (k : Kept (fun j => j = g) b b') (hg : X g) : Kept X a b' := h.trans k (fun _ _ h => h) (fun _ _ e => by subst e; exact hg)
theorem RfPost.crashed {base : Nat} {w wr w' : World} {R : RF} {rs : RSt} {su : Secs} (h : RRaw base wr R { rs with su := su }) (hK : Kept (rfoot R) w wr)
    (hw : w' = ((wr.setCell ⟨R.b, 1, none⟩ (.slice none 0 0)).setCell ⟨R.b, 2, none⟩ (.bool false)).setCell ⟨R.b, 4, none⟩ (.bool false)) :
    RfPost base R { su := su, L := [], fz := false, n := rs.n, off := false } (.tuple #[]) w (.returned (.tuple #[])) w' := by
  subst hw
  have hk3 : Kept (fun k => k = R.b) wr (((wr.setCell ⟨R.b, 1, none⟩ (.slice none 0 0)).setCell ⟨R.b, 2, none⟩ (.bool false)).setCell ⟨R.b, 4, none⟩ (.bool false)) :=
    (((Kept.refl (fun k => k = R.b) wr).set (p := ⟨R.b, 1, none⟩) rfl).set (p := ⟨R.b, 2, none⟩) rfl).set (p := ⟨R.b, 4, none⟩) rfl
  refine ⟨{ R with lv := .slice none 0 0 }, rfl, ?_, rfl, ?_, ((hK.set (p := ⟨R.b, 1, none⟩) (.inl rfl)).set (p := ⟨R.b, 2, none⟩) (.inl rfl)).set (p := ⟨R.b, 4, none⟩) (.inl rfl)⟩
  · exact {
      n1 := h.n1
      n2 := h.n2
      s64 := h.s64
      nw := h.nw
      lat := by simp
      blk := by
        rw [heap_setCell_same _ _ 4 _ _ _ (heap_setCell_same _ _ 2 _ _ _ (heap_setCell_same wr _ 1 _ _ _ h.blk))]
        rfl
      own1 := h.own1.kept hk3 h.gl h.a1
      gb := h.gb
      gl := by simpa using h.gl
      hcap := h.hcap
      hcm := h.hcm
      own2 := Own.nil _ _ _ _ _
      bb := h.bb
      a1 := h.a1
      a2 := by simp [Value.ownBlock]
      a3 := by simp [Value.ownBlock] }
  · rintro k (rfl | rfl | hk)
    · exact .inl (.inl rfl)
    · exact .inl (.inr (.inl rfl))
    · cases hk
set_option maxHeartbeats 8000000 in
set_option maxRecDepth 100000 in
theorem crash_ref {base : Nat} {w : World} {R : RF} {rs : RSt} (h : RRaw base w R rs) (hll : rs.L.length ≤ 1000000000) (ko : Option Addr) (kcap : Nat) (keep : List Int) (hkl : keep.length ≤ 9223372036854775807) (hkeep : SlAt (Rd.int .i64) (fun b => ¬ rfoot R b) w ko keep) :
    Calls Tryd.prog 30 #[.pointer (some ⟨R.b, 0, none⟩), .slice ko keep.length kcap] w (RfPost base R (rcrashS rs keep) (.tuple #[]) w) := by
  obtain ⟨ao, lcap, elv⟩ := h.own2.form
  have H := Lib.hid h
  have HLV := Lib.hid elv
  have HK := Lib.hid hkeep
  have hn2 := h.n2
  have HW := Lib.hid (show ∀ x ∈ rs.L.map toWr, x.2.length = 64 ∧ x.1 < rs.su.length from fun x hx => by
    obtain ⟨y, hy, rfl⟩ := List.mem_map.1 hx
    have := h.lat y hy
    exact ⟨pad_len this.2.2, by show y.1.toNat < _; omega⟩)
  clear h elv hkeep
  go_enter Tryd.func30, Tryd.ntmps30
  go_wp2_with fail
  go_loopw [4] (fun v4 wr => ∃ k : Nat, k ≤ rs.L.length ∧ v4 = .int .i64 k ∧ Hid (RRaw base wr R { rs with su := tearL keep 0 ((rs.L.take k).map toWr) rs.su }) ∧ Kept (rfoot R) w wr) (fun v4 _ => rs.L.length - (intOf v4).toNat)
  case atStart => exact ⟨0, by omega, rfl, Lib.hid H.out, Kept.refl _ _⟩
  case round =>
    obtain ⟨k, hk, rfl, hR, hK⟩ := hrel
    obtain ⟨d0, d1, d2, d3, d4⟩ := hR.out.cells
    rw [HLV.out] at d1
    have hlen : (tearL keep 0 ((rs.L.take k).map toWr) rs.su).length = rs.su.length := tearL_len _ _ _ _
    simp only [hlen] at d0
    have HLEN := Lib.hid hlen
    clear hlen
    by_cases hkl : k < rs.L.length
    · obtain ⟨x, hx⟩ := some_at hkl
      obtain ⟨g3, cap3, e3, y0, y1⟩ := rlo_get hR.out.own2 hx
      obtain ⟨rfl, rfl⟩ : ao = some ⟨g3, 0, none⟩ ∧ cap3 = lcap := by rw [HLV.out] at e3; injection e3 with a b c; exact ⟨a, c.symm⟩
      obtain ⟨hx0, hx1, hx2⟩ := H.out.lat x (List.mem_of_getElem? hx)
      obtain ⟨a, ha⟩ : ∃ a : Nat, x.1 = (a : Int) := ⟨x.1.toNat, by omega⟩
      rw [ha] at y0
      have hal : a < rs.su.length := by omega
      obtain ⟨y, hy⟩ := some_at (l := tearL keep 0 ((rs.L.take k).map toWr) rs.su) (k := a) (by rw [HLEN.out]; exact hal)
      have h64 := hR.out.s64
      have hy64 := h64 y (List.mem_of_getElem? hy)
      have hnx : tearL keep 0 ((rs.L.take (k + 1)).map toWr) rs.su = (tearL keep 0 ((rs.L.take k).map toWr) rs.su).set a (tear y (pad x.2) (kOf keep k)) := by
        have hlt : ((rs.L.take k).map toWr).length = k := by simp; omega
        rw [take_at2 hx, List.map_append, List.map_cons, List.map_nil, tearL_snoc, hlt, Nat.zero_add]
        have e1 : (toWr x).1 = a := by show x.1.toNat = a; omega
        have e2 : (tearL keep 0 ((rs.L.take k).map toWr) rs.su).getD a [] = y := by rw [List.getD_eq_getElem?_getD, hy]; rfl
        rw [e1, e2]
        rfl
      have HNX := Lib.hid hnx
      have HN64 := Lib.hid (show ∀ d ∈ tearL keep 0 ((rs.L.take (k + 1)).map toWr) rs.su, d.length = 64 from tearL64 H.out.s64 (fun z hz => HW.out z (by
        obtain ⟨q, hq, rfl⟩ := List.mem_map.1 hz
        exact List.mem_map.2 ⟨q, List.mem_of_mem_take hq, rfl⟩)))
      have HFL := Lib.hid (show (tearL keep 0 ((rs.L.take k).map toWr) rs.su).flatten.length = 64 * rs.su.length by rw [flat_len h64, HLEN.out])
      have HPF := Lib.hid (fun f q (hq : f + q ≤ 64) => putB_flat (f := f) (k := q) h64 hy hq hx2)
      have hkl2 : (k : Int) < (rs.L.length : Int) := by omega
      have hlim : k ≤ 1000000000 := by omega
      have HY64 := Lib.hid hy64
      have hkk := kOf_le keep k
      clear hnx hy hx ha hx0 hx1 e3 h64 hy64 d2 d3 d4
      by_cases hik : k < keep.length
      · obtain ⟨c, hc⟩ := some_at hik
        obtain ⟨kb, koff, cs0, rfl, _, hkb, ⟨rfl, _⟩, hcell⟩ := (HK.out.kept hK (fun b hb _ => hb)).get hc
        have hik2 : (k : Int) < (keep.length : Int) := by omega
        have HMOD := Lib.hid (kOf_mod hc)
        obtain ⟨kk, hkk0⟩ : ∃ kk, kOf keep k = kk := ⟨_, rfl⟩
        rw [hkk0] at HMOD hkk
        have HKK := Lib.hid hkk0
        have hcell0 : wr.cell? ⟨kb, koff + k, none⟩ = some (.int .i64 c) := by simpa [Rd.int] using hcell 0 _ rfl
        clear hkk0 hcell hc hik
        by_cases h64 : kk ≤ 64
        · have hd64 : decide ((kk : Int) ≤ 64) = true := by simp; omega
          have h64i : (kk : Int) ≤ 64 := by omega
          have hmod := HMOD.out
          go_wp2_with fail
          clear hmod
          obtain ⟨W2, hW2, HR2, hK2⟩ : ∃ W2, { wr with drawn := wr.drawn + 1 } = W2 ∧ RRaw base W2 R { rs with su := tearL keep 0 ((rs.L.take k).map toWr) rs.su } ∧ Kept (rfoot R) w W2 :=
            ⟨_, rfl, hR.out.below (Below.refl _ _).drew, hK.step (Below.refl _ _).drew⟩
          obtain ⟨q0, q1, q2, q3, q4⟩ := HR2.cells
          rw [HLV.out] at q1
          simp only [HLEN.out] at q0
          have z0 : W2.cell? ⟨g3, k * 2, none⟩ = some (.int .i64 (a : Int)) := by rw [← hW2]; exact y0
          have z1 : W2.cell? ⟨g3, k * 2 + 1, none⟩ = some (.string x.2) := by rw [← hW2]; exact y1
          have HBY := Lib.hid HR2.own1
          have HRR := Lib.hid HR2
          have hgl := HR2.gl
          have HTE := Lib.hid (spl_tear1 HY64.out hx2 h64)
          clear HR2
          refine wp_region_still_tail 12 (by kernel_rfl) (by kernel_rfl) ?_
          rw [hW2]
          clear hW2
          simp only [List.take_succ_cons, List.take_zero, List.drop_succ_cons, List.drop_zero]
          repeat still_step
          refine wpStill_nil ?_
          go_wp2_with (go_at_call 55; refine (put_ref (f := 0) (l := kk) (a := a) (s := x.2) HBY.out HFL.out hgl hx2 (by omega) (by omega) (by omega) (by omega)).mono ?_; rintro e w4 ⟨rfl, hB4, hK4⟩)
          go_roundw
          case measure => simp [intOf]; omega
          case rel =>
            have e := HPF.out 0 (kk) (by omega)
            have hn := HNX.out
            rw [HKK.out] at hn
            rw [HTE.out, ← hn] at e
            have e2 := hB4
            rw [show kk - 0 = kk by omega, e] at e2
            exact ⟨k + 1, by omega, by go_num, Lib.hid (HRR.out.put e2 hK4 (by rw [tearL_len, HLEN.out]) HN64.out), kept_sets2 hK2 hK4 (.inr (.inl rfl))⟩
        · obtain ⟨f, hf⟩ : ∃ f, f = 128 - kk := ⟨_, rfl⟩
          have hd64 : decide ((kk : Int) ≤ 64) = false := by simp; omega
          have hd64b : ¬ (kk : Int) ≤ 64 := by omega
          have hf64 : f < 64 := by omega
          have hf64i : (f : Int) < 64 := by omega
          have hkk2 : (kk : Int) ≤ 128 := by omega
          have hwr : IntKind.i64.wrap ((128 : Int) - (kk : Int)) = (f : Int) := by rw [IntWalk.i64_in _ (by omega)]; omega
          have hmod := HMOD.out
          have h64b : 64 < kk := by omega
          have HFK := Lib.hid hf
          clear hf
          go_wp2_with fail
          clear hmod
          obtain ⟨W2, hW2, HR2, hK2⟩ : ∃ W2, { wr with drawn := wr.drawn + 1 } = W2 ∧ RRaw base W2 R { rs with su := tearL keep 0 ((rs.L.take k).map toWr) rs.su } ∧ Kept (rfoot R) w W2 :=
            ⟨_, rfl, hR.out.below (Below.refl _ _).drew, hK.step (Below.refl _ _).drew⟩
          obtain ⟨q0, q1, q2, q3, q4⟩ := HR2.cells
          rw [HLV.out] at q1
          simp only [HLEN.out] at q0
          have z0 : W2.cell? ⟨g3, k * 2, none⟩ = some (.int .i64 (a : Int)) := by rw [← hW2]; exact y0
          have z1 : W2.cell? ⟨g3, k * 2 + 1, none⟩ = some (.string x.2) := by rw [← hW2]; exact y1
          have HBY := Lib.hid HR2.own1
          have HRR := Lib.hid HR2
          have hgl := HR2.gl
          have HTE := Lib.hid (spl_tear2 HY64.out hx2 h64b HFK.out)
          clear HR2
          refine wp_region_still_tail 13 (by kernel_rfl) (by kernel_rfl) ?_
          rw [hW2]
          clear hW2
          simp only [List.take_succ_cons, List.take_zero, List.drop_succ_cons, List.drop_zero]
          repeat still_step
          refine wpStill_nil ?_
          clear hwr
          go_wp2_with (go_at_call 55; refine (put_ref (f := f) (l := 64) (a := a) (s := x.2) HBY.out HFL.out hgl hx2 (by omega) (by omega) (by omega) (by omega)).mono ?_; rintro e w4 ⟨rfl, hB4, hK4⟩)
          go_roundw
          case measure => simp [intOf]; omega
          case rel =>
            have e := HPF.out f (64 - f) (by omega)
            have hn := HNX.out
            rw [HKK.out] at hn
            rw [HTE.out, ← hn] at e
            have e2 := hB4
            rw [show 64 - f = 64 - f by omega, e] at e2
            exact ⟨k + 1, by omega, by go_num, Lib.hid (HRR.out.put e2 hK4 (by rw [tearL_len, HLEN.out]) HN64.out), kept_sets2 hK2 hK4 (.inr (.inl rfl))⟩
      · have hik2 : decide ((k : Int) < (keep.length : Int)) = false := by simp; omega
        have hik3 : ¬ (k : Int) < (keep.length : Int) := by omega
        have HKK := Lib.hid (kOf_no hik)
        go_wp2_with fail
        skip
        obtain ⟨W2, hW2, HR2, hK2⟩ : ∃ W2, { wr with drawn := wr.drawn + 1 } = W2 ∧ RRaw base W2 R { rs with su := tearL keep 0 ((rs.L.take k).map toWr) rs.su } ∧ Kept (rfoot R) w W2 :=
          ⟨_, rfl, hR.out.below (Below.refl _ _).drew, hK.step (Below.refl _ _).drew⟩
        obtain ⟨q0, q1, q2, q3, q4⟩ := HR2.cells
        rw [HLV.out] at q1
        simp only [HLEN.out] at q0
        have z0 : W2.cell? ⟨g3, k * 2, none⟩ = some (.int .i64 (a : Int)) := by rw [← hW2]; exact y0
        have z1 : W2.cell? ⟨g3, k * 2 + 1, none⟩ = some (.string x.2) := by rw [← hW2]; exact y1
        have HBY := Lib.hid HR2.own1
        have HRR := Lib.hid HR2
        have hgl := HR2.gl
        have HTE := Lib.hid (spl_tear1 (k := 0) HY64.out hx2 (by omega))
        clear HR2
        refine wp_region_still_tail 12 (by kernel_rfl) (by kernel_rfl) ?_
        rw [hW2]
        clear hW2
        simp only [List.take_succ_cons, List.take_zero, List.drop_succ_cons, List.drop_zero]
        repeat still_step
        refine wpStill_nil ?_
        go_wp2_with (go_at_call 55; refine (put_ref (f := 0) (l := 0) (a := a) (s := x.2) HBY.out HFL.out hgl hx2 (by omega) (by omega) (by omega) (by omega)).mono ?_; rintro e w4 ⟨rfl, hB4, hK4⟩)
        go_roundw
        case measure => simp [intOf]; omega
        case rel =>
          have e := HPF.out 0 (0) (by omega)
          have hn := HNX.out
          rw [HKK.out] at hn
          rw [HTE.out, ← hn] at e
          have e2 := hB4
          rw [show 0 - 0 = 0 by omega, e] at e2
          exact ⟨k + 1, by omega, by go_num, Lib.hid (HRR.out.put e2 hK4 (by rw [tearL_len, HLEN.out]) HN64.out), kept_sets2 hK2 hK4 (.inr (.inl rfl))⟩
    · obtain rfl : k = rs.L.length := by omega
      rw [List.take_length] at hR HLEN
      have f1 := hR.out.free 1
      have f2 := hR.out.free 2
      have f4 := hR.out.free 4
      go_wp2_with fail
      go_end0
      have hx : rfoot R R.b := .inl rfl
      exact RfPost.crashed hR.out hK rfl
end Go.Proofs.YtaljgcdjkmpljaaDoor

/- Both plates side by side: what they have in common, step by step. -/
namespace Go.Proofs.YtaljgcdjkmpljaaDoor
open Go.RowKit Lift
set_option linter.unusedSimpArgs false
set_option linter.unusedVariables false

structure Rel (st : St) (rs : RSt) : Prop where
  good : Good st
  su : rs.su = st.su
  lo : st.lo = rs.L.map toWr
  fz : rs.fz = decide (0 ≤ st.fu)
  n : 0 ≤ st.fu → rs.n = st.fu
  off : rs.off = st.off
  f1 : -1 ≤ st.fu
  at' : ∀ x ∈ st.lo, x.1 < st.su.length
theorem Rel.no {st : St} {rs : RSt} (h : Rel st rs) : rno rs = st.no := by
  unfold rno; rw [← h.lo, h.su, ← h.good.eq]
theorem Rel.len {st : St} {rs : RSt} (h : Rel st rs) : rs.su.length = st.no.length := by rw [h.su, h.good.len]
theorem Rel.pos {st : St} {rs : RSt} (h : Rel st rs) : rs.fz = true → 0 ≤ rs.n := by
  intro hf
  rw [h.fz] at hf
  have h0 : 0 ≤ st.fu := by simpa using hf
  rw [h.n h0]; exact h0
theorem Rel.new (n : Nat) : Rel (St.new n) (RSt.new n) := ⟨Good.new n, rfl, rfl, rfl, fun h => by simp [St.new] at h, rfl, by simp [St.new], by simp [St.new]⟩
theorem Rel.there {st : St} {rs : RSt} (h : Rel st rs) (x : Int) : rthereE rs x = thereE st x := by
  unfold rthereE thereE; rw [h.off, h.len]
theorem Rel.get {st : St} {rs : RSt} (h : Rel st rs) (x : Int) : rgetV rs x = getV st x := by
  unfold rgetV getV; rw [h.there, h.no]
theorem Rel.burn {st : St} {rs : RSt} (h : Rel st rs) : stepE rs = burnE st ∧ Rel (burnS st) (stepS rs) := by
  unfold stepE stepS burnE
  have hg := h.good.burn
  by_cases h0 : st.fu = 0
  · have hf : rs.fz = true := by rw [h.fz]; simp [h0]
    have hn : rs.n = 0 := by rw [h.n (by omega), h0]
    simp only [hf, hn, h0, ↓reduceIte]
    refine ⟨trivial, ?_⟩
    unfold burnS at hg ⊢
    simp only [h0, ↓reduceIte] at hg ⊢
    exact ⟨hg, h.su, h.lo, by simp, by simp [h0], rfl, by simp, h.at'⟩
  · by_cases h1 : 0 < st.fu
    · have hf : rs.fz = true := by rw [h.fz]; simp; omega
      have hn : rs.n = st.fu := h.n (by omega)
      have hn0 : ¬ rs.n = 0 := by omega
      simp only [hf, hn0, h0, ↓reduceIte]
      refine ⟨trivial, ?_⟩
      unfold burnS at hg ⊢
      simp only [h0, h1, ↓reduceIte] at hg ⊢
      exact ⟨hg, h.su, h.lo, by simp; omega, fun _ => by show rs.n - 1 = st.fu - 1; omega, h.off, by show -1 ≤ st.fu - 1; omega, h.at'⟩
    · have hf : rs.fz = false := by rw [h.fz]; simp; omega
      simp only [hf, h0, Bool.false_eq_true, ↓reduceIte]
      refine ⟨trivial, ?_⟩
      unfold burnS
      simp only [h0, h1, ↓reduceIte]
      exact h
theorem Rel.put {st : St} {rs : RSt} (h : Rel st rs) (x : Int) (s : ByteArray) : errP rs x s = putE st x s ∧ Rel (putS st x s) (rputS rs x s) := by
  have hb := h.burn
  have hg := h.good.put x s
  unfold errP rputS putE putS thereE
  unfold putS thereE at hg
  rw [h.off, h.len]
  by_cases h1 : st.off = true
  · simp only [h1, ↓reduceIte] at hg ⊢
    exact ⟨by simp, by simpa using h⟩
  · simp only [h1, ↓reduceIte, Bool.false_eq_true] at hg ⊢
    by_cases h2 : x < 0 ∨ (st.no.length : Int) ≤ x
    · simp only [h2, ↓reduceIte] at hg ⊢
      exact ⟨by simp, by simpa using h⟩
    · simp only [h2, ↓reduceIte] at hg ⊢
      by_cases h3 : 64 < s.size
      · simp only [h3, ↓reduceIte]
        exact ⟨trivial, h⟩
      · simp only [h3, ↓reduceIte] at hg ⊢
        rw [hb.1]
        refine ⟨rfl, ?_⟩
        by_cases h4 : burnE st = 0
        · simp only [h4, ↓reduceIte] at hg ⊢
          have hR := hb.2
          refine ⟨hg, hR.su, ?_, hR.fz, hR.n, hR.off, hR.f1, ?_⟩
          · show (burnS st).lo ++ [(x.toNat, pad s)] = ((stepS rs).L ++ [(x, s)]).map toWr
            rw [List.map_append, ← hR.lo]; rfl
          · intro y hy
            rcases List.mem_append.1 hy with hy | hy
            · exact hR.at' y hy
            · simp only [List.mem_singleton] at hy
              rw [hy]
              show x.toNat < (burnS st).su.length
              rw [burnS_same.1, h.good.len]; omega
        · simp only [h4, ↓reduceIte]
          exact hb.2
theorem Rel.sync {st : St} {rs : RSt} (h : Rel st rs) : rsyncE rs = syncE st ∧ Rel (syncS st) (rsyncS rs) := by
  have hb := h.burn
  unfold rsyncE syncE rsyncS syncS
  rw [h.off]
  by_cases h1 : st.off = true
  · simp only [h1, ↓reduceIte]
    exact ⟨trivial, h⟩
  · simp only [h1, ↓reduceIte, Bool.false_eq_true]
    rw [hb.1]
    refine ⟨rfl, ?_⟩
    by_cases h4 : burnE st = 0
    · simp only [h4, ↓reduceIte]
      have hR := hb.2
      rw [h.good.settle, h.no]
      refine ⟨⟨h.good.n64, by simp, ?_⟩, rfl, rfl, hR.fz, hR.n, hR.off, hR.f1, by simp⟩
      show (burnS st).no = setAll [] st.no
      rw [burnS_same.2.1]; rfl
    · simp only [h4, ↓reduceIte]
      exact hb.2
theorem Rel.fuse {st : St} {rs : RSt} (h : Rel st rs) (n : Int) : Rel { st with fu := max n (-1) } { rs with fz := decide (0 ≤ n), n := n } :=
  ⟨⟨h.good.su64, h.good.lo64, h.good.eq⟩, h.su, h.lo, by
    show decide (0 ≤ n) = decide (0 ≤ max n (-1))
    rw [Bool.eq_iff_iff]; simp; omega, fun h0 => by
    have h0' : 0 ≤ max n (-1) := h0
    show n = max n (-1); omega, h.off, by show -1 ≤ max n (-1); omega, h.at'⟩
theorem Rel.crash {st : St} {rs : RSt} (h : Rel st rs) (keep : List Int) : Rel (crashS st keep) (rcrashS rs keep) := by
  rw [h.good.crash]
  unfold rcrashS
  rw [h.su, ← h.lo]
  refine ⟨⟨tearL64 h.good.su64 (fun x hx => ⟨h.good.lo64 x hx, h.at' x hx⟩), by simp, rfl⟩, rfl, rfl, rfl, fun h0 => by simp at h0, rfl, by simp, by simp⟩

/-! ### The memory of both, and what is to be left alone -/
def Mem (base : Nat) (w : World) (O : Nat → Prop) (ab : Nat) (st : St) (rb : Nat) (rs : RSt) : Prop :=
  ∃ (F : Fp) (R : RF), F.b = ab ∧ R.b = rb ∧ Raw base w F st ∧ RRaw base w R rs ∧ (∀ k, foot F k → ¬ rfoot R k) ∧ ∀ k, O k → ¬ foot F k ∧ ¬ rfoot R k ∧ k < w.heap.size
/-- From base on, what is to be left alone aside. -/
def Free (base : Nat) (O : Nat → Prop) (k : Nat) : Prop := base ≤ k ∧ ¬ O k
def MemV (base : Nat) (O : Nat → Prop) (ab : Nat) (st : St) (rb : Nat) (rs : RSt) (v : Value) (w : World) (e : Ending) (w' : World) : Prop :=
  e = .returned v ∧ Mem base w' O ab st rb rs ∧ Kept (Free base O) w w'
theorem Mem.below {base : Nat} {w w' : World} {O : Nat → Prop} {ab rb : Nat} {st : St} {rs : RSt} (h : Mem base w O ab st rb rs) (hb : Below w.heap.size w w') : Mem base w' O ab st rb rs := by
  obtain ⟨F, R, e1, e2, h1, h2, h3, h4⟩ := h
  exact ⟨F, R, e1, e2, h1.below hb, h2.below hb, h3, fun k hk => ⟨(h4 k hk).1, (h4 k hk).2.1, Nat.lt_of_lt_of_le (h4 k hk).2.2 hb.size⟩⟩
theorem Mem.more {base : Nat} {w w' : World} {O O' : Nat → Prop} {ab rb : Nat} {st : St} {rs : RSt} (h : Mem base w O ab st rb rs) (hb : Below w.heap.size w w') (hO : ∀ k, O' k → O k ∨ (w.heap.size ≤ k ∧ k < w'.heap.size)) : Mem base w' O' ab st rb rs := by
  obtain ⟨F, R, e1, e2, h1, h2, h3, h4⟩ := h
  refine ⟨F, R, e1, e2, h1.below hb, h2.below hb, h3, fun k hk => ?_⟩
  rcases hO k hk with h | ⟨hge, hlt⟩
  · exact ⟨(h4 k h).1, (h4 k h).2.1, Nat.lt_of_lt_of_le (h4 k h).2.2 hb.size⟩
  · exact ⟨fun hf => by have := h1.inb k hf; omega, fun hf => by have := h2.inb k hf; omega, hlt⟩
theorem Mem.less {base : Nat} {w : World} {O O' : Nat → Prop} {ab rb : Nat} {st : St} {rs : RSt} (h : Mem base w O ab st rb rs) (hO : ∀ k, O' k → O k) : Mem base w O' ab st rb rs := by
  obtain ⟨F, R, e1, e2, h1, h2, h3, h4⟩ := h
  exact ⟨F, R, e1, e2, h1, h2, h3, fun k hk => h4 k (hO k hk)⟩
theorem Mem.stepA {base : Nat} {w : World} {O : Nat → Prop} {ab rb : Nat} {st st' : St} {rs : RSt} {f : FuncId} {args : Array Value} {v : Value} (h : Mem base w O ab st rb rs) (hc : ∀ F, Raw base w F st → F.b = ab → (∀ k, foot F k → k < w.heap.size) → Calls Tryd.prog f args w (PlPost base F st' v w)) :
    Calls Tryd.prog f args w (MemV base O ab st' rb rs v w) := by
  obtain ⟨F, R, e1, e2, h1, h2, h3, h4⟩ := h
  refine (hc F h1 e1 h1.inb).mono ?_
  rintro e w' ⟨F', he, hR, hb, hf, hk⟩
  refine ⟨he, ⟨F', R, hb.trans e1, e2, hR, h2.kept hk (fun k a b => h3 k b a), fun k a b => ?_, fun k hO => ⟨fun a => ?_, (h4 k hO).2.1, Nat.lt_of_lt_of_le (h4 k hO).2.2 hk.size⟩⟩, hk.wide (fun k _ hfk => ⟨h1.ge k hfk, fun hO => (h4 k hO).1 hfk⟩)⟩
  · rcases hf k a with h | h
    · exact h3 k h b
    · have := h2.inb k b; omega
  · rcases hf k a with h | h
    · exact (h4 k hO).1 h
    · have := (h4 k hO).2.2; omega
theorem Mem.stepR {base : Nat} {w : World} {O : Nat → Prop} {ab rb : Nat} {st : St} {rs rs' : RSt} {f : FuncId} {args : Array Value} {v : Value} (h : Mem base w O ab st rb rs) (hc : ∀ R, RRaw base w R rs → R.b = rb → Calls Tryd.prog f args w (RfPost base R rs' v w)) :
    Calls Tryd.prog f args w (MemV base O ab st rb rs' v w) := by
  obtain ⟨F, R, e1, e2, h1, h2, h3, h4⟩ := h
  refine (hc R h2 e2).mono ?_
  rintro e w' ⟨R', he, hR, hb, hf, hk⟩
  refine ⟨he, ⟨F, R', e1, hb.trans e2, h1.kept hk (fun k a b => h3 k a b), hR, fun k a b => ?_, fun k hO => ⟨(h4 k hO).1, fun a => ?_, Nat.lt_of_lt_of_le (h4 k hO).2.2 hk.size⟩⟩, hk.wide (fun k _ hfk => ⟨h2.ge k hfk, fun hO => (h4 k hO).2.1 hfk⟩)⟩
  · rcases hf k b with h | h
    · exact h3 k a h
    · have := h1.inb k a; omega
  · rcases hf k a with h | h
    · exact (h4 k hO).2.1 h
    · have := (h4 k hO).2.2; omega
theorem Mem.pl {base : Nat} {w : World} {O : Nat → Prop} {ab rb : Nat} {st : St} {rs : RSt} (h : Mem base w O ab st rb rs) : Pl base w ab st := by
  obtain ⟨F, R, e1, e2, h1, _⟩ := h; exact ⟨F, e1, h1⟩
theorem Mem.rf {base : Nat} {w : World} {O : Nat → Prop} {ab rb : Nat} {st : St} {rs : RSt} (h : Mem base w O ab st rb rs) : ∃ R, R.b = rb ∧ RRaw base w R rs := by
  obtain ⟨F, R, e1, e2, _, h2, _⟩ := h; exact ⟨R, e2, h2⟩
end Go.Proofs.YtaljgcdjkmpljaaDoor

/- Do: a call of both. -/
namespace Go.Proofs.YtaljgcdjkmpljaaDoor
open Go.RowKit Lift
set_option linter.unusedSimpArgs false
set_option linter.unusedVariables false

section
variable {base : Nat} {w : World} {O : Nat → Prop} {ab rb : Nat} {st : St} {rs : RSt}
theorem mem_put (h : Mem base w O ab st rb rs) (x : Int) (s : ByteArray) (hs : s.size ≤ maxTx) (hll : st.lo.length ≤ 1000000000) :
    Calls Tryd.prog 28 #[.pointer (some ⟨ab, 0, none⟩), .int .i64 x, .string s] w (MemV base O ab (putS st x s) rb rs (.int .i64 (putE st x s)) w) :=
  h.stepA fun F hF e _ => by subst e; exact put_any hF x s hs hll
theorem mem_sync (h : Mem base w O ab st rb rs) (hll : st.lo.length ≤ 1000000000) :
    Calls Tryd.prog 38 #[.pointer (some ⟨ab, 0, none⟩)] w (MemV base O ab (syncS st) rb rs (.int .i64 (syncE st)) w) :=
  h.stepA fun F hF e _ => by subst e; exact sync_any hF hll
theorem mem_fuse (h : Mem base w O ab st rb rs) (n : Int) (hn : Wf n) :
    Calls Tryd.prog 14 #[.pointer (some ⟨ab, 0, none⟩), .int .i64 n] w (MemV base O ab { st with fu := max n (-1) } rb rs (.tuple #[]) w) :=
  h.stepA fun F hF e _ => by
    subst e
    have := int_i64 hn
    exact (fuse_any hF n this.1 this.2).mono fun e w' h => h.pl rfl (fun k h => h)
theorem mem_crash {w4 : World} (h : Mem base w4 O ab st rb rs) (hb : Below w4.heap.size w4 w) (hll : st.lo.length ≤ 1000000000) (ko : Option Addr) (kcap : Nat) (keep : List Int) (n : Nat) (hn : n = keep.length) (hkl : keep.length ≤ 9223372036854775807) (hk : SlAt (Rd.int .i64) (fun k => w4.heap.size ≤ k) w ko keep) :
    Calls Tryd.prog 19 #[.pointer (some ⟨ab, 0, none⟩), .slice ko n kcap] w (MemV base O ab (crashS st keep) rb rs (.tuple #[]) w) := by
  subst hn
  obtain ⟨F, R, e1, e2, h1, h2, h3, h4⟩ := h
  have r1 := h1.below hb
  have r2 := h2.below hb
  have hk2 : SlAt (Rd.int .i64) (fun b => ¬ foot F b) w ko keep := hk.mono (fun k hk _ hf => by have := h1.inb k hf; omega)
  subst e1
  refine (crash_any r1 hll ko kcap keep hkl hk2).mono ?_
  rintro e w' ⟨he, hR, hK⟩
  exact ⟨he, ⟨_, R, by rfl, e2, hR, r2.kept hK (fun k a b => h3 k b a), fun k a b => h3 k (foot_nil k a) b, fun k hO => ⟨fun a => (h4 k hO).1 (foot_nil k a), (h4 k hO).2.1, Nat.lt_of_lt_of_le (Nat.lt_of_lt_of_le (h4 k hO).2.2 hb.size) hK.size⟩⟩,
    hK.wide (fun k _ hfk => ⟨h1.ge k hfk, fun hO => (h4 k hO).1 hfk⟩)⟩
theorem rem_put (h : Mem base w O ab st rb rs) (hn : rs.fz = true → 0 ≤ rs.n) (x : Int) (s : ByteArray) (hs : s.size ≤ maxTx) (hx : Wf x) (hll : rs.L.length ≤ 1000000000) :
    Calls Tryd.prog 29 #[.pointer (some ⟨rb, 0, none⟩), .int .i64 x, .string s] w (MemV base O ab st rb (rputS rs x s) (.int .i64 (errP rs x s)) w) :=
  h.stepR fun R hR e => by subst e; exact put_plate_ref hR hn x s hs hx hll
theorem rem_sync (h : Mem base w O ab st rb rs) (hn : rs.fz = true → 0 ≤ rs.n) (hll : rs.L.length ≤ 1000000000) :
    Calls Tryd.prog 49 #[.pointer (some ⟨rb, 0, none⟩)] w (MemV base O ab st rb (rsyncS rs) (.int .i64 (rsyncE rs)) w) :=
  h.stepR fun R hR e => by subst e; exact sync_ref hR hn hll
theorem rem_fuse (h : Mem base w O ab st rb rs) (n : Int) (hn : Wf n) :
    Calls Tryd.prog 27 #[.pointer (some ⟨rb, 0, none⟩), .int .i64 n] w (MemV base O ab st rb { rs with fz := decide (0 ≤ n), n := n } (.tuple #[]) w) :=
  h.stepR fun R hR e => by subst e; exact fuse_ref hR n hn
theorem rem_crash (h : Mem base w O ab st rb rs) (hll : rs.L.length ≤ 1000000000) (ko : Option Addr) (kcap : Nat) (keep : List Int) (hkl : keep.length ≤ 9223372036854775807) (hk : SlAt (Rd.int .i64) (· < base) w ko keep) :
    Calls Tryd.prog 30 #[.pointer (some ⟨rb, 0, none⟩), .slice ko keep.length kcap] w (MemV base O ab st rb (rcrashS rs keep) (.tuple #[]) w) :=
  h.stepR fun R hR e => by
    have hk2 : SlAt (Rd.int .i64) (fun b => ¬ rfoot R b) w ko keep := hk.mono (fun k hk _ hf => by have := hR.ge k hf; omega)
    subst e
    exact crash_ref hR hll ko kcap keep hkl hk2
theorem mem_get (h : Mem base w O ab st rb rs) (x : Int) : Calls Tryd.prog 43 #[.pointer (some ⟨ab, 0, none⟩), .int .i64 x] w (fun e w' => e = .returned (getV st x) ∧ w = w') := pl_get h.pl x
theorem rem_get (h : Mem base w O ab st rb rs) (hR : Rel st rs) (x : Int) (hll : rs.L.length ≤ 1000000000) : Calls Tryd.prog 57 #[.pointer (some ⟨rb, 0, none⟩), .int .i64 x] w (BelowPost (getV st x) w) := by
  obtain ⟨R, rfl, h2⟩ := h.rf
  rw [← hR.get]
  exact get_ref h2 x hll
theorem rem_image (h : Mem base w O ab st rb rs) (hR : Rel st rs) (hll : rs.L.length ≤ 1000000000) : Calls Tryd.prog 33 #[.pointer (some ⟨rb, 0, none⟩)] w (StrPost (imageB st.no) w) := by
  obtain ⟨R, rfl, h2⟩ := h.rf
  rw [← hR.no]
  exact image_ref h2 hll
theorem mem_image (h : Mem base w O ab st rb rs) : Calls Tryd.prog 13 #[.pointer (some ⟨ab, 0, none⟩)] w (StrPost (imageB st.no) w) := pl_image h.pl
theorem mem_size (h : Mem base w O ab st rb rs) : Calls Tryd.prog 61 #[.pointer (some ⟨ab, 0, none⟩)] w (fun e w' => e = .returned (.int .i64 (st.no.length : Int)) ∧ w' = w) := by
  obtain ⟨F, R, rfl, e2, h1, h2, h3, h4⟩ := h
  exact (size_any h1).mono fun _ _ ⟨a, b⟩ => ⟨a, b.symm⟩
theorem rem_size (h : Mem base w O ab st rb rs) (hR : Rel st rs) : Calls Tryd.prog 53 #[.pointer (some ⟨rb, 0, none⟩)] w (fun e w' => e = .returned (.int .i64 (st.no.length : Int)) ∧ w' = w) := by
  obtain ⟨R, rfl, h2⟩ := h.rf
  rw [← hR.len]
  exact (size_ref h2).mono fun _ _ ⟨a, b⟩ => ⟨a, b.symm⟩
theorem mem_down (h : Mem base w O ab st rb rs) (hR : Rel st rs) : Calls Tryd.prog 18 #[.pointer (some ⟨ab, 0, none⟩)] w (fun e w' => e = .returned (.bool rs.off) ∧ w' = w) := by
  obtain ⟨F, R, rfl, e2, h1, h2, h3, h4⟩ := h
  rw [hR.off]
  exact (down_any h1).mono fun _ _ ⟨a, b⟩ => ⟨a, b.symm⟩
theorem rem_put2 {st0 : St} (h : Mem base w O ab st rb rs) (hR : Rel st0 rs) (x : Int) (s : ByteArray) (hs : s.size ≤ maxTx) (hx : Wf x) (hll : rs.L.length ≤ 1000000000) :
    Calls Tryd.prog 29 #[.pointer (some ⟨rb, 0, none⟩), .int .i64 x, .string s] w (MemV base O ab st rb (rputS rs x s) (.int .i64 (putE st0 x s)) w) := by
  have := rem_put h hR.pos x s hs hx hll
  rwa [(hR.put x s).1] at this
theorem rem_sync2 {st0 : St} (h : Mem base w O ab st rb rs) (hR : Rel st0 rs) (hll : rs.L.length ≤ 1000000000) :
    Calls Tryd.prog 49 #[.pointer (some ⟨rb, 0, none⟩)] w (MemV base O ab st rb (rsyncS rs) (.int .i64 (syncE st0)) w) := by
  have := rem_sync h hR.pos hll
  rwa [hR.sync.1] at this
theorem rf_cells (h : Mem base w O ab st rb rs) : ∃ lo lcap, w.cell? ⟨rb, 1, none⟩ = some (.slice lo rs.L.length lcap) ∧ w.cell? ⟨rb, 4, none⟩ = some (.bool rs.off) := by
  obtain ⟨R, rfl, h2⟩ := h.rf
  obtain ⟨_, c1, _, _, c4⟩ := h2.cells
  obtain ⟨ao, cap, e⟩ := h2.own2.form
  rw [e] at c1
  exact ⟨ao, cap, c1, c4⟩
end
theorem mem_getE {base : Nat} {w : World} {O : Nat → Prop} {ab rb : Nat} {st : St} {rs : RSt} {x : Int} {v : Value} (h : Mem base w O ab st rb rs) (e : getV st x = v) : Calls Tryd.prog 43 #[.pointer (some ⟨ab, 0, none⟩), .int .i64 x] w (fun e w' => e = .returned v ∧ w = w') := by
  subst e; exact mem_get h x
theorem rem_getE {base : Nat} {w : World} {O : Nat → Prop} {ab rb : Nat} {st : St} {rs : RSt} {x : Int} {v : Value} (h : Mem base w O ab st rb rs) (hR : Rel st rs) (hll : rs.L.length ≤ 1000000000) (e : getV st x = v) : Calls Tryd.prog 57 #[.pointer (some ⟨rb, 0, none⟩), .int .i64 x] w (BelowPost v w) := by
  subst e; exact rem_get h hR x hll
def fuseS (st : St) (n : Int) : St := { st with fu := max n (-1) }
def rfuseS (rs : RSt) (n : Int) : RSt := { rs with fz := decide (0 ≤ n), n := n }
theorem Rel.fuse2 {st : St} {rs : RSt} (h : Rel st rs) (n : Int) : Rel (fuseS st n) (rfuseS rs n) := h.fuse n
theorem mem_fuse2 {base : Nat} {w : World} {O : Nat → Prop} {ab rb : Nat} {st : St} {rs : RSt} (h : Mem base w O ab st rb rs) (n : Int) (hn : Wf n) :
    Calls Tryd.prog 14 #[.pointer (some ⟨ab, 0, none⟩), .int .i64 n] w (MemV base O ab (fuseS st n) rb rs (.tuple #[]) w) := mem_fuse h n hn
theorem rem_fuse2 {base : Nat} {w : World} {O : Nat → Prop} {ab rb : Nat} {st : St} {rs : RSt} (h : Mem base w O ab st rb rs) (n : Int) (hn : Wf n) :
    Calls Tryd.prog 27 #[.pointer (some ⟨rb, 0, none⟩), .int .i64 n] w (MemV base O ab st rb (rfuseS rs n) (.tuple #[]) w) := rem_fuse h n hn
theorem int_row2 : (Tryd.prog.info? 3).map (fun i => (i.zero, i.size, i.bytes)) = some (some (.int .i64 0), 1, 8) := by kernel_rfl
theorem int_flat : Flat (Rd.int .i64) := fun _ _ _ _ _ _ h => h
theorem int_ones : ∀ S w cs c, (Rd.int .i64).rel S w cs c → ∀ u ∈ cs, u.oneCell' = true := by
  rintro S w cs c ⟨rfl, _⟩ u hu
  simp at hu; subst hu; rfl
theorem Rel.lrle {st : St} {rs : RSt} (h : Rel st rs) {n : Nat} (h1 : st.lo.length ≤ n + 1) (h2 : n ≤ 1000000) : rs.L.length ≤ 1000000000 := by
  have : st.lo.length = rs.L.length := by rw [h.lo, List.length_map]
  omega
def BoxC (w : World) (tb : Nat) (c : Op4) (ko : Option Addr) (kcap : Nat) : Prop :=
  w.cell? ⟨tb, 0, none⟩ = some (.int .i64 c.1) ∧ w.cell? ⟨tb, 1, none⟩ = some (.int .i64 c.2.1) ∧ w.cell? ⟨tb, 2, none⟩ = some (.string c.2.2.1) ∧ w.cell? ⟨tb, 3, none⟩ = some (.slice ko c.2.2.2.length kcap)
theorem BoxC.kept {w w' : World} {tb : Nat} {c : Op4} {ko : Option Addr} {kcap : Nat} {X : Nat → Prop} (h : BoxC w tb c ko kcap) (hk : Kept X w w') (hx : ¬ X tb) (hlt : tb < w.heap.size) : BoxC w' tb c ko kcap :=
  ⟨(hk.cell (p := ⟨tb, 0, none⟩) hlt hx).trans h.1, (hk.cell (p := ⟨tb, 1, none⟩) hlt hx).trans h.2.1, (hk.cell (p := ⟨tb, 2, none⟩) hlt hx).trans h.2.2.1, (hk.cell (p := ⟨tb, 3, none⟩) hlt hx).trans h.2.2.2⟩
def DoPost (base : Nat) (O : Nat → Prop) (ab : Nat) (st : St) (rb : Nat) (w : World) (e : Ending) (w' : World) : Prop :=
  ∃ st' rs', e = .returned (.bool true) ∧ Rel st' rs' ∧ st'.lo.length ≤ st.lo.length + 1 ∧ Mem base w' O ab st' rb rs' ∧ Kept (Free base O) w w'
theorem kept2 {base : Nat} {O : Nat → Prop} {a b c : World} (h : Kept (Free base O) a b) (k : Kept (Free base O) b c) : Kept (Free base O) a c := h.trans k (fun _ _ h => h) (fun _ _ h => h)
theorem do_end {base : Nat} {w w0 w' : World} {O : Nat → Prop} {ab rb : Nat} {st st' : St} {rs' : RSt} {ob : Obj} (hw0 : w.alloc ob = w0) (hM : Mem base w' (fun k => O k ∨ k = w.heap.size) ab st' rb rs') (hK : Kept (Free base (fun k => O k ∨ k = w.heap.size)) w0 w') (hR : Rel st' rs') (hlo : st'.lo.length ≤ st.lo.length + 1) :
    DoPost base O ab st rb w (.returned (.bool true)) w' := by
  subst hw0
  refine ⟨st', rs', rfl, hR, hlo, hM.less (fun k h => .inl h), ?_⟩
  exact (Kept.alloc (fun _ => False) w ob).trans hK (fun _ _ h => h.elim) (fun k _ h => ⟨h.1, fun ho => h.2 (.inl ho)⟩)
theorem put_lo {st : St} {x : Int} {s : ByteArray} : (putS st x s).lo.length ≤ st.lo.length + 1 := by
  unfold putS
  split
  · split
    · omega
    · split
      · show ((burnS st).lo ++ _).length ≤ _
        rw [burnS_same.2.2]; simp
      · rw [burnS_same.2.2]; omega
  · omega
theorem sync_lo {st : St} : (syncS st).lo.length ≤ st.lo.length + 1 := by
  unfold syncS
  split
  · omega
  · split
    · simp
    · rw [burnS_same.2.2]; omega
end Go.Proofs.YtaljgcdjkmpljaaDoor
