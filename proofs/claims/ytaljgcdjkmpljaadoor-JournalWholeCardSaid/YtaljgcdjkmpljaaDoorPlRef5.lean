/- The reference's plate: New, Sync, Crash. -/
import Derived.Test.YtaljgcdjkmpljaaDoorPlRef4
namespace Go.Proofs.YtaljgcdjkmpljaaDoor
open Go.RowKit Lift
set_option linter.unusedSimpArgs false
set_option linter.unusedVariables false

def RSt.new (n : Nat) : RSt := { su := List.replicate n zer, L := [], fz := false, n := 0, off := false }
theorem zer_flat (n : Nat) : (List.replicate n zer).flatten = List.replicate (n * 64) 0 := by
  unfold zer; rw [List.flatten_replicate_replicate]
def RNewPost (rs : RSt) (w : World) (e : Ending) (w' : World) : Prop := ∃ R, e = .returned (.tuple #[.pointer (some ⟨R.b, 0, none⟩), .int .i64 0]) ∧ RRaw w.heap.size w' R rs ∧ Below w.heap.size w w'
theorem rnew_no (w : World) (x : Int) (h : x < 1 ∨ 8192 < x) : Calls Tryd.prog 22 #[.int .i64 x] w (fun e w' => e = .returned (.tuple #[.pointer none, .int .i64 2]) ∧ w = w') := by
  by_cases h1 : x < 1
  · have hd1 : decide (x < 1) = true := by simpa using h1
    go_enter Tryd.func22, Tryd.ntmps22
    go_wp2_with fail
    go_ret2
    exact ⟨rfl, rfl⟩
  · have hd1 : decide (x < 1) = false := by simpa using h1
    have hd2 : decide (8192 < x) = true := by simp; omega
    clear h h1
    go_enter Tryd.func22, Tryd.ntmps22
    go_wp2_with fail
    go_ret2
    exact ⟨rfl, rfl⟩
set_option maxHeartbeats 1000000 in
set_option maxRecDepth 100000 in
theorem new_ref (w : World) (n : Nat) (h1 : 1 ≤ n) (h2 : n ≤ 8192) : Calls Tryd.prog 22 #[.int .i64 (n : Int)] w (RNewPost (RSt.new n) w) := by
  have hd1 : decide ((n : Int) < 1) = false := by simp; omega
  have hd2 : decide ((8192 : Int) < (n : Int)) = false := by simp; omega
  obtain ⟨i0, hi, hz0, hz1, hz2⟩ := info_parts u8_row
  have HI := Lib.hid hi
  have HZ0 := Lib.hid hz0
  have HZ1 := Lib.hid hz1
  have HZ2 := Lib.hid hz2
  have hn : (n : Int) ≤ 8192 := by omega
  clear hi hz0 hz1 hz2
  go_enter Tryd.func22, Tryd.ntmps22
  go_wp2_with (at_make; refine wpList_make_full _ rfl _ _ 32 rfl w.heap.size 5 i0 (.int .u8 0) 1 Tryd.underlying32 HI.out HZ0.out HZ1.out _ _ _ _ (64 * n) rfl rfl (by omega) (by omega) (by rw [HZ2.out]; omega) (by unfold maxLen; omega) (Nat.le_refl _) ?_; intro w5 hO5 hg5)
  go_ret2
  have hb5 : Below w.heap.size w w5 := (Kept.of_grown hg5).below (Nat.le_refl _) (fun k e => by cases e)
  have hlt : w.heap.size < w5.heap.size := (hO5.lt _ rfl).2
  have hO6 : w5.ownsRow w.heap.size 5 1 (.slice (some ⟨w.heap.size, 0, none⟩) (64 * n) (64 * n)) (64 * n) (Cs (List.replicate n zer).flatten) := by
    rw [zer_flat]
    have e : Cs (List.replicate (n * 64) 0) = (madeCells #[Value.int .u8 0] (64 * n * 1)).toList := by
      have : (madeCells #[Value.int .u8 0] (64 * n * 1)).toList = List.replicate (64 * n * 1) (.int .u8 0) := by
        apply List.ext_getElem
        · simp [madeCells]
        · intro i h1 h2
          simp [madeCells, Nat.mod_one]
      rw [this]
      simp only [Lib.byteCells, List.map_replicate]
      rw [show n * 64 = 64 * n * 1 by omega]
      rfl
    rw [e]
    exact hO5
  refine ⟨⟨w5.heap.size, w.heap.size, 64 * n, .slice none 0 0⟩, rfl, ?_, hb5.alloc (by have := hb5.size; omega) _⟩
  have hal : Below w5.heap.size w5 (w5.alloc (.cells #[.slice (some ⟨w.heap.size, 0, none⟩) (64 * n) (64 * n), .slice none 0 0, .bool false, .int .i64 0, .bool false] 67)) := (Below.refl _ _).alloc (Nat.le_refl _) _
  exact {
    n1 := by simpa [RSt.new] using h1
    n2 := by simpa [RSt.new] using h2
    s64 := by intro d hd; rw [List.eq_of_mem_replicate hd]; exact zer_len
    nw := Wf.of (by show _ ≤ (0 : Int); omega) (by show (0 : Int) ≤ _; omega)
    lat := by simp [RSt.new]
    blk := by simpa [rfCells, RSt.new] using heap_alloc_new w5 _
    own1 := by
      show Bytes _ w.heap.size (List.replicate n zer).flatten
      exact (own_bytes hO6).keep hal hlt
    gb := Nat.le_refl _
    gl := by simp; omega
    hcap := by simp [RSt.new]
    hcm := by show 64 * n ≤ _; unfold maxLen; omega
    own2 := Own.nil _ _ _ _ _
    bb := by have := hb5.size; exact this
    a1 := by show w.heap.size ≠ w5.heap.size; omega
    a2 := by simp [Value.ownBlock]
    a3 := by simp [Value.ownBlock] }

def rsyncE (rs : RSt) : Int := if rs.off then 12 else stepE rs
def rsyncS (rs : RSt) : RSt := if rs.off then rs else if stepE rs = 0 then { stepS rs with su := rno rs, L := [] } else stepS rs
theorem imageB_size {no : Secs} (h : ∀ d ∈ no, d.length = 64) : (imageB no).size = 64 * no.length := by
  show no.flatten.length = _; exact flat_len h
theorem RRaw.no64 {base : Nat} {w : World} {R : RF} {rs : RSt} (h : RRaw base w R rs) : ∀ d ∈ rno rs, d.length = 64 :=
  Proofs.YtaljgcdjkmpljaaDoor.no64 h.s64 (fun x hx => by
    obtain ⟨y, hy, rfl⟩ := List.mem_map.1 hx
    exact pad_len (h.lat y hy).2.2)
theorem rno_len (rs : RSt) : (rno rs).length = rs.su.length := setAll_len _ _
theorem sync_end {base : Nat} {w w1 w2 W3 : World} {R R1 : RF} {rs1 : RSt} (h : RRaw base w1 R1 rs1) (hb : R1.b = R.b) (hf : ∀ k, rfoot R1 k → rfoot R k ∨ w.heap.size ≤ k) (hK : Kept (rfoot R) w w1) (hB2 : Below w1.heap.size w1 w2)
    (hBy : Bytes W3 w2.heap.size (imageB (rno rs1)).data.toList) (hB3 : Below w2.heap.size w2 W3) (hs : W3.heap.size = w2.heap.size + 1) (v : Value) :
    RfPost base R { rs1 with su := rno rs1, L := [] } v w (.returned v) ((W3.setCell ⟨R.b, 0, none⟩ (.slice (some ⟨w2.heap.size, 0, none⟩) (imageB (rno rs1)).size (grownCap w2 (imageB (rno rs1)).size 0 5))).setCell ⟨R.b, 1, none⟩ (.slice none 0 0)) := by
  rw [← hb]
  have h3 := (h.below hB2).below hB3
  have hlt := h.lt
  have s2 := hB2.size
  have hsz : (imageB (rno rs1)).size = 64 * (rno rs1).length := imageB_size h.no64
  have hk3 : Kept (fun k => k = R1.b) W3 ((W3.setCell ⟨R1.b, 0, none⟩ (.slice (some ⟨w2.heap.size, 0, none⟩) (imageB (rno rs1)).size (grownCap w2 (imageB (rno rs1)).size 0 5))).setCell ⟨R1.b, 1, none⟩ (.slice none 0 0)) :=
    ((Kept.refl (fun k => k = R1.b) W3).set (p := ⟨R1.b, 0, none⟩) rfl).set (p := ⟨R1.b, 1, none⟩) rfl
  refine ⟨⟨R1.b, w2.heap.size, grownCap w2 (imageB (rno rs1)).size 0 5, .slice none 0 0⟩, rfl, ?_, hb, ?_, ?_⟩
  · exact {
      n1 := by show 1 ≤ (rno rs1).length; rw [rno_len]; exact h.n1
      n2 := by show (rno rs1).length ≤ _; rw [rno_len]; exact h.n2
      s64 := h.no64
      nw := h.nw
      lat := by simp
      blk := by
        rw [heap_setCell_same _ _ 1 _ _ _ (heap_setCell_same W3 _ 0 _ _ _ h3.blk), hsz]
        rfl
      own1 := hBy.kept hk3 (by omega) (by omega)
      gb := by have := h.base_le; show base ≤ w2.heap.size; omega
      gl := by simp; omega
      hcap := Nat.le_trans (Nat.le_of_eq hsz.symm) (grownCap_ge w2 (imageB (rno rs1)).size 0 5)
      hcm := grownCap_le_maxLen w2 (imageB (rno rs1)).size 0 5 (by have := h.n2; have := rno_len rs1; unfold maxLen; omega)
      own2 := Own.nil _ _ _ _ _
      bb := h.bb
      a1 := by show w2.heap.size ≠ R1.b; omega
      a2 := by simp [Value.ownBlock]
      a3 := by simp [Value.ownBlock] }
  · rintro k (rfl | rfl | hk)
    · exact hf _ (.inl rfl)
    · exact .inr (by have := hK.size; show w.heap.size ≤ w2.heap.size; omega)
    · cases hk
  · have hk1 : Kept (rfoot R) w W3 := (hK.step hB2).step hB3
    have hx : rfoot R R1.b := .inl hb
    exact (hk1.set (p := ⟨R1.b, 0, none⟩) hx).set (p := ⟨R1.b, 1, none⟩) hx
set_option maxHeartbeats 1000000 in
set_option maxRecDepth 100000 in
theorem sync_ref {base : Nat} {w : World} {R : RF} {rs : RSt} (h : RRaw base w R rs) (hn : rs.fz = true → 0 ≤ rs.n) (hll : rs.L.length ≤ 1000000000) :
    Calls Tryd.prog 49 #[.pointer (some ⟨R.b, 0, none⟩)] w (RfPost base R (rsyncS rs) (.int .i64 (rsyncE rs)) w) := by
  have c4 := h.cells.2.2.2.2
  have HB := Lib.hid (step_ref h hn)
  have H := Lib.hid h
  have hk := Kept.refl (rfoot R) w
  unfold rsyncS rsyncE
  cases ho : rs.off with
  | true =>
    rw [ho] at c4
    simp only [↓reduceIte]
    clear ho h hn
    go_enter Tryd.func49, Tryd.ntmps49
    go_wp2_with fail
    go_ret
    exact RfPost.same rfl H.out hk
  | false =>
    rw [ho] at c4
    simp only [↓reduceIte, Bool.false_eq_true]
    by_cases hb : stepE rs = 0
    · simp only [hb, ↓reduceIte]
      rw [hb] at HB
      have hrn : rno rs = rno (stepS rs) := by unfold rno; rw [stepS_same.1, stepS_same.2]
      have hll1 : (stepS rs).L.length ≤ 1000000000 := by rw [stepS_same.2]; exact hll
      rw [hrn]
      generalize stepS rs = rs1 at *
      clear ho h hn hb hrn
      go_enter Tryd.func49, Tryd.ntmps49
      go_wp2_with (first
        | ((with_reducible refine (HB.out).mono ?_); rintro e w1 ⟨R1, rfl, hR1, hb1, hf1, hK1⟩; have HR1 := Lib.hid hR1; have HB1 := Lib.hid hb1; have him := image_ref hR1 hll1; rw [hb1] at him; have HIM := Lib.hid him; clear hR1 hb1 him)
        | ((with_reducible refine (HIM.out).mono ?_); rintro e w2 ⟨rfl, hB2⟩; have HR2 := Lib.hid (HR1.out.below hB2);
           have hcv := Lib.run_convert_string_bytes (P := Tryd.prog) w2 9 32 5 (imageB (rno rs1)) Tryd.underlying9 Tryd.underlying32 Tryd.underlying5;
           obtain ⟨W3, hW3⟩ : ∃ W3, Lib.bytesWorld w2 5 (imageB (rno rs1)) = W3 := ⟨_, rfl⟩;
           have hBy := bytes_new w2 5 (imageB (rno rs1)); have hB3 := Lib.bytesWorld_below w2 5 (imageB (rno rs1)); have hsz := Lib.bytesWorld_size w2 5 (imageB (rno rs1));
           rw [hW3] at hcv hBy hB3 hsz; clear hW3; have hR3 := HR2.out.below hB3;
           obtain ⟨c0, c1, _, _, _⟩ := hR3.cells; have f0 := hR3.free 0; have f1 := hR3.free 1; rw [HB1.out] at c0 c1 f0 f1;
           have HR3 := Lib.hid hR3; have HBY := Lib.hid hBy; have HS := Lib.hid hsz; clear hR3 hBy hsz))
      go_ret
      exact sync_end HR1.out HB1.out hf1 hK1 hB2 HBY.out hB3 HS.out _
    · have hne : (stepE rs == 0) = false := by simpa using hb
      simp only [hb, ↓reduceIte]
      generalize stepE rs = y at *
      clear ho h hn hb
      go_enter Tryd.func49, Tryd.ntmps49
      go_wp2_with ((with_reducible refine (HB.out).mono ?_); rintro e w1 ⟨R1, rfl, hR1, hb1, hf1, hK1⟩)
      go_ret
      exact ⟨R1, rfl, hR1, hb1, hf1, hK1⟩

def rcrashS (rs : RSt) (keep : List Int) : RSt := { su := tearL keep 0 (rs.L.map toWr) rs.su, L := [], fz := false, n := rs.n, off := false }
theorem RRaw.put {base : Nat} {w w' : World} {R : RF} {rs : RSt} {su : Secs} (h : RRaw base w R rs) (hB : Bytes w' R.g su.flatten) (hK : Kept (fun k => k = R.g) w w') (hl : su.length = rs.su.length) (h64 : ∀ d ∈ su, d.length = 64) : RRaw base w' R { rs with su := su } where
  n1 := by rw [hl]; exact h.n1
  n2 := by rw [hl]; exact h.n2
  s64 := h64
  nw := h.nw
  lat := by rw [hl]; exact h.lat
  blk := by
    rw [(hK.block R.b h.lt.1 (fun e => h.a1 e.symm)).trans h.blk]
    simp [rfCells, hl]
  own1 := hB
  gb := h.gb
  gl := Nat.lt_of_lt_of_le h.gl hK.size
  hcap := by rw [hl]; exact h.hcap
  hcm := h.hcm
  own2 := h.own2.flat rlo_flat hK (fun k e hh => by subst hh; exact h.a3 e)
  bb := h.bb
  a1 := h.a1
  a2 := h.a2
  a3 := h.a3
theorem spl_tear1 {y : List UInt8} {s : ByteArray} {k : Nat} (hy : y.length = 64) (hs : s.size ≤ 64) (hk : k ≤ 64) : spl y s 0 k = tear y (pad s) k := by
  unfold spl tear
  rw [if_pos hk]
  simp
theorem spl_tear2 {y : List UInt8} {s : ByteArray} {k f : Nat} (hy : y.length = 64) (hs : s.size ≤ 64) (hk : 64 < k) (hf : f = 128 - k) : spl y s f (64 - f) = tear y (pad s) k := by
  have hp := pad_len hs
  unfold spl tear
  rw [if_neg (by omega), ← hf, List.take_of_length_le (l := (pad s).drop f) (by simp; omega), List.drop_of_length_le (l := y) (by omega), List.append_nil]
theorem tearL64 {keep : List Int} : ∀ {lo : List Wr} {j : Nat} {b : Secs}, (∀ d ∈ b, d.length = 64) → (∀ x ∈ lo, x.2.length = 64 ∧ x.1 < b.length) → ∀ d ∈ tearL keep j lo b, d.length = 64
  | [], j, b, hb, _ => hb
  | x :: r, j, b, hb, hx => by
    unfold tearL
    obtain ⟨h64, hlt⟩ := hx x (by simp)
    refine tearL64 (fun d hd => ?_) (fun y hy => by rw [List.length_set]; exact hx y (List.mem_cons_of_mem _ hy))
    rcases List.mem_or_eq_of_mem_set hd with hd | rfl
    · exact hb d hd
    · refine tear_len ?_ h64
      rw [List.getD_eq_getElem?_getD, List.getElem?_eq_getElem hlt]
      exact hb _ (List.getElem_mem hlt)
theorem kept_sets2 {X : Nat → Prop} {a b : World} (h : Kept X a b) {g : Nat} {b' : World} (k : Kept (fun j => j = g) b b') (hg : X g) : Kept X a b' := h.trans k (fun _ _ h => h) (fun _ _ e => by subst e; exact hg)
theorem RfPost.crashed {base : Nat} {w wr w' : World} {R : RF} {rs : RSt} {su : Secs} (h : RRaw base wr R { rs with su := su }) (hK : Kept (rfoot R) w wr)
    (hw : w' = ((wr.setCell ⟨R.b, 1, none⟩ (.slice none 0 0)).setCell ⟨R.b, 2, none⟩ (.bool false)).setCell ⟨R.b, 4, none⟩ (.bool false)) :
    RfPost base R { su := su, L := [], fz := false, n := rs.n, off := false } (.tuple #[]) w (.returned (.tuple #[])) w' := by
  subst hw
  have hk3 : Kept (fun k => k = R.b) wr (((wr.setCell ⟨R.b, 1, none⟩ (.slice none 0 0)).setCell ⟨R.b, 2, none⟩ (.bool false)).setCell ⟨R.b, 4, none⟩ (.bool false)) :=
    (((Kept.refl (fun k => k = R.b) wr).set (p := ⟨R.b, 1, none⟩) rfl).set (p := ⟨R.b, 2, none⟩) rfl).set (p := ⟨R.b, 4, none⟩) rfl
  refine ⟨{ R with lv := .slice none 0 0 }, rfl, ?_, rfl, ?_, ((hK.set (p := ⟨R.b, 1, none⟩) (.inl rfl)).set (p := ⟨R.b, 2, none⟩) (.inl rfl)).set (p := ⟨R.b, 4, none⟩) (.inl rfl)⟩
  · exact {
      n1 := h.n1
      n2 := h.n2
      s64 := h.s64
      nw := h.nw
      lat := by simp
      blk := by
        rw [heap_setCell_same _ _ 4 _ _ _ (heap_setCell_same _ _ 2 _ _ _ (heap_setCell_same wr _ 1 _ _ _ h.blk))]
        rfl
      own1 := h.own1.kept hk3 h.gl h.a1
      gb := h.gb
      gl := by simpa using h.gl
      hcap := h.hcap
      hcm := h.hcm
      own2 := Own.nil _ _ _ _ _
      bb := h.bb
      a1 := h.a1
      a2 := by simp [Value.ownBlock]
      a3 := by simp [Value.ownBlock] }
  · rintro k (rfl | rfl | hk)
    · exact .inl (.inl rfl)
    · exact .inl (.inr (.inl rfl))
    · cases hk
set_option maxHeartbeats 8000000 in
set_option maxRecDepth 100000 in
theorem crash_ref {base : Nat} {w : World} {R : RF} {rs : RSt} (h : RRaw base w R rs) (hll : rs.L.length ≤ 1000000000) (ko : Option Addr) (kcap : Nat) (keep : List Int) (hkl : keep.length ≤ 9223372036854775807) (hkeep : SlAt (Rd.int .i64) (fun b => ¬ rfoot R b) w ko keep) :
    Calls Tryd.prog 30 #[.pointer (some ⟨R.b, 0, none⟩), .slice ko keep.length kcap] w (RfPost base R (rcrashS rs keep) (.tuple #[]) w) := by
  obtain ⟨ao, lcap, elv⟩ := h.own2.form
  have H := Lib.hid h
  have HLV := Lib.hid elv
  have HK := Lib.hid hkeep
  have hn2 := h.n2
  have HW := Lib.hid (show ∀ x ∈ rs.L.map toWr, x.2.length = 64 ∧ x.1 < rs.su.length from fun x hx => by
    obtain ⟨y, hy, rfl⟩ := List.mem_map.1 hx
    have := h.lat y hy
    exact ⟨pad_len this.2.2, by show y.1.toNat < _; omega⟩)
  clear h elv hkeep
  go_enter Tryd.func30, Tryd.ntmps30
  go_wp2_with fail
  go_loopw [4] (fun v4 wr => ∃ k : Nat, k ≤ rs.L.length ∧ v4 = .int .i64 k ∧ Hid (RRaw base wr R { rs with su := tearL keep 0 ((rs.L.take k).map toWr) rs.su }) ∧ Kept (rfoot R) w wr) (fun v4 _ => rs.L.length - (intOf v4).toNat)
  case atStart => exact ⟨0, by omega, rfl, Lib.hid H.out, Kept.refl _ _⟩
  case round =>
    obtain ⟨k, hk, rfl, hR, hK⟩ := hrel
    obtain ⟨d0, d1, d2, d3, d4⟩ := hR.out.cells
    rw [HLV.out] at d1
    have hlen : (tearL keep 0 ((rs.L.take k).map toWr) rs.su).length = rs.su.length := tearL_len _ _ _ _
    simp only [hlen] at d0
    have HLEN := Lib.hid hlen
    clear hlen
    by_cases hkl : k < rs.L.length
    · obtain ⟨x, hx⟩ := some_at hkl
      obtain ⟨g3, cap3, e3, y0, y1⟩ := rlo_get hR.out.own2 hx
      obtain ⟨rfl, rfl⟩ : ao = some ⟨g3, 0, none⟩ ∧ cap3 = lcap := by rw [HLV.out] at e3; injection e3 with a b c; exact ⟨a, c.symm⟩
      obtain ⟨hx0, hx1, hx2⟩ := H.out.lat x (List.mem_of_getElem? hx)
      obtain ⟨a, ha⟩ : ∃ a : Nat, x.1 = (a : Int) := ⟨x.1.toNat, by omega⟩
      rw [ha] at y0
      have hal : a < rs.su.length := by omega
      obtain ⟨y, hy⟩ := some_at (l := tearL keep 0 ((rs.L.take k).map toWr) rs.su) (k := a) (by rw [HLEN.out]; exact hal)
      have h64 := hR.out.s64
      have hy64 := h64 y (List.mem_of_getElem? hy)
      have hnx : tearL keep 0 ((rs.L.take (k + 1)).map toWr) rs.su = (tearL keep 0 ((rs.L.take k).map toWr) rs.su).set a (tear y (pad x.2) (kOf keep k)) := by
        have hlt : ((rs.L.take k).map toWr).length = k := by simp; omega
        rw [take_at2 hx, List.map_append, List.map_cons, List.map_nil, tearL_snoc, hlt, Nat.zero_add]
        have e1 : (toWr x).1 = a := by show x.1.toNat = a; omega
        have e2 : (tearL keep 0 ((rs.L.take k).map toWr) rs.su).getD a [] = y := by rw [List.getD_eq_getElem?_getD, hy]; rfl
        rw [e1, e2]
        rfl
      have HNX := Lib.hid hnx
      have HN64 := Lib.hid (show ∀ d ∈ tearL keep 0 ((rs.L.take (k + 1)).map toWr) rs.su, d.length = 64 from tearL64 H.out.s64 (fun z hz => HW.out z (by
        obtain ⟨q, hq, rfl⟩ := List.mem_map.1 hz
        exact List.mem_map.2 ⟨q, List.mem_of_mem_take hq, rfl⟩)))
      have HFL := Lib.hid (show (tearL keep 0 ((rs.L.take k).map toWr) rs.su).flatten.length = 64 * rs.su.length by rw [flat_len h64, HLEN.out])
      have HPF := Lib.hid (fun f q (hq : f + q ≤ 64) => putB_flat (f := f) (k := q) h64 hy hq hx2)
      have hkl2 : (k : Int) < (rs.L.length : Int) := by omega
      have hlim : k ≤ 1000000000 := by omega
      have HY64 := Lib.hid hy64
      have hkk := kOf_le keep k
      clear hnx hy hx ha hx0 hx1 e3 h64 hy64 d2 d3 d4
      by_cases hik : k < keep.length
      · obtain ⟨c, hc⟩ := some_at hik
        obtain ⟨kb, koff, cs0, rfl, _, hkb, ⟨rfl, _⟩, hcell⟩ := (HK.out.kept hK (fun b hb _ => hb)).get hc
        have hik2 : (k : Int) < (keep.length : Int) := by omega
        have HMOD := Lib.hid (kOf_mod hc)
        obtain ⟨kk, hkk0⟩ : ∃ kk, kOf keep k = kk := ⟨_, rfl⟩
        rw [hkk0] at HMOD hkk
        have HKK := Lib.hid hkk0
        have hcell0 : wr.cell? ⟨kb, koff + k, none⟩ = some (.int .i64 c) := by simpa [Rd.int] using hcell 0 _ rfl
        clear hkk0 hcell hc hik
        by_cases h64 : kk ≤ 64
        · have hd64 : decide ((kk : Int) ≤ 64) = true := by simp; omega
          have h64i : (kk : Int) ≤ 64 := by omega
          have hmod := HMOD.out
          go_wp2_with fail
          clear hmod
          obtain ⟨W2, hW2, HR2, hK2⟩ : ∃ W2, { wr with drawn := wr.drawn + 1 } = W2 ∧ RRaw base W2 R { rs with su := tearL keep 0 ((rs.L.take k).map toWr) rs.su } ∧ Kept (rfoot R) w W2 :=
            ⟨_, rfl, hR.out.below (Below.refl _ _).drew, hK.step (Below.refl _ _).drew⟩
          obtain ⟨q0, q1, q2, q3, q4⟩ := HR2.cells
          rw [HLV.out] at q1
          simp only [HLEN.out] at q0
          have z0 : W2.cell? ⟨g3, k * 2, none⟩ = some (.int .i64 (a : Int)) := by rw [← hW2]; exact y0
          have z1 : W2.cell? ⟨g3, k * 2 + 1, none⟩ = some (.string x.2) := by rw [← hW2]; exact y1
          have HBY := Lib.hid HR2.own1
          have HRR := Lib.hid HR2
          have hgl := HR2.gl
          have HTE := Lib.hid (spl_tear1 HY64.out hx2 h64)
          clear HR2
          refine wp_region_still_tail 12 (by kernel_rfl) (by kernel_rfl) ?_
          rw [hW2]
          clear hW2
          simp only [List.take_succ_cons, List.take_zero, List.drop_succ_cons, List.drop_zero]
          repeat still_step
          refine wpStill_nil ?_
          go_wp2_with (go_at_call 55; refine (put_ref (f := 0) (l := kk) (a := a) (s := x.2) HBY.out HFL.out hgl hx2 (by omega) (by omega) (by omega) (by omega)).mono ?_; rintro e w4 ⟨rfl, hB4, hK4⟩)
          go_roundw
          case measure => simp [intOf]; omega
          case rel =>
            have e := HPF.out 0 (kk) (by omega)
            have hn := HNX.out
            rw [HKK.out] at hn
            rw [HTE.out, ← hn] at e
            have e2 := hB4
            rw [show kk - 0 = kk by omega, e] at e2
            exact ⟨k + 1, by omega, by go_num, Lib.hid (HRR.out.put e2 hK4 (by rw [tearL_len, HLEN.out]) HN64.out), kept_sets2 hK2 hK4 (.inr (.inl rfl))⟩
        · obtain ⟨f, hf⟩ : ∃ f, f = 128 - kk := ⟨_, rfl⟩
          have hd64 : decide ((kk : Int) ≤ 64) = false := by simp; omega
          have hd64b : ¬ (kk : Int) ≤ 64 := by omega
          have hf64 : f < 64 := by omega
          have hf64i : (f : Int) < 64 := by omega
          have hkk2 : (kk : Int) ≤ 128 := by omega
          have hwr : IntKind.i64.wrap ((128 : Int) - (kk : Int)) = (f : Int) := by rw [IntWalk.i64_in _ (by omega)]; omega
          have hmod := HMOD.out
          have h64b : 64 < kk := by omega
          have HFK := Lib.hid hf
          clear hf
          go_wp2_with fail
          clear hmod
          obtain ⟨W2, hW2, HR2, hK2⟩ : ∃ W2, { wr with drawn := wr.drawn + 1 } = W2 ∧ RRaw base W2 R { rs with su := tearL keep 0 ((rs.L.take k).map toWr) rs.su } ∧ Kept (rfoot R) w W2 :=
            ⟨_, rfl, hR.out.below (Below.refl _ _).drew, hK.step (Below.refl _ _).drew⟩
          obtain ⟨q0, q1, q2, q3, q4⟩ := HR2.cells
          rw [HLV.out] at q1
          simp only [HLEN.out] at q0
          have z0 : W2.cell? ⟨g3, k * 2, none⟩ = some (.int .i64 (a : Int)) := by rw [← hW2]; exact y0
          have z1 : W2.cell? ⟨g3, k * 2 + 1, none⟩ = some (.string x.2) := by rw [← hW2]; exact y1
          have HBY := Lib.hid HR2.own1
          have HRR := Lib.hid HR2
          have hgl := HR2.gl
          have HTE := Lib.hid (spl_tear2 HY64.out hx2 h64b HFK.out)
          clear HR2
          refine wp_region_still_tail 13 (by kernel_rfl) (by kernel_rfl) ?_
          rw [hW2]
          clear hW2
          simp only [List.take_succ_cons, List.take_zero, List.drop_succ_cons, List.drop_zero]
          repeat still_step
          refine wpStill_nil ?_
          clear hwr
          go_wp2_with (go_at_call 55; refine (put_ref (f := f) (l := 64) (a := a) (s := x.2) HBY.out HFL.out hgl hx2 (by omega) (by omega) (by omega) (by omega)).mono ?_; rintro e w4 ⟨rfl, hB4, hK4⟩)
          go_roundw
          case measure => simp [intOf]; omega
          case rel =>
            have e := HPF.out f (64 - f) (by omega)
            have hn := HNX.out
            rw [HKK.out] at hn
            rw [HTE.out, ← hn] at e
            have e2 := hB4
            rw [show 64 - f = 64 - f by omega, e] at e2
            exact ⟨k + 1, by omega, by go_num, Lib.hid (HRR.out.put e2 hK4 (by rw [tearL_len, HLEN.out]) HN64.out), kept_sets2 hK2 hK4 (.inr (.inl rfl))⟩
      · have hik2 : decide ((k : Int) < (keep.length : Int)) = false := by simp; omega
        have hik3 : ¬ (k : Int) < (keep.length : Int) := by omega
        have HKK := Lib.hid (kOf_no hik)
        go_wp2_with fail
        skip
        obtain ⟨W2, hW2, HR2, hK2⟩ : ∃ W2, { wr with drawn := wr.drawn + 1 } = W2 ∧ RRaw base W2 R { rs with su := tearL keep 0 ((rs.L.take k).map toWr) rs.su } ∧ Kept (rfoot R) w W2 :=
          ⟨_, rfl, hR.out.below (Below.refl _ _).drew, hK.step (Below.refl _ _).drew⟩
        obtain ⟨q0, q1, q2, q3, q4⟩ := HR2.cells
        rw [HLV.out] at q1
        simp only [HLEN.out] at q0
        have z0 : W2.cell? ⟨g3, k * 2, none⟩ = some (.int .i64 (a : Int)) := by rw [← hW2]; exact y0
        have z1 : W2.cell? ⟨g3, k * 2 + 1, none⟩ = some (.string x.2) := by rw [← hW2]; exact y1
        have HBY := Lib.hid HR2.own1
        have HRR := Lib.hid HR2
        have hgl := HR2.gl
        have HTE := Lib.hid (spl_tear1 (k := 0) HY64.out hx2 (by omega))
        clear HR2
        refine wp_region_still_tail 12 (by kernel_rfl) (by kernel_rfl) ?_
        rw [hW2]
        clear hW2
        simp only [List.take_succ_cons, List.take_zero, List.drop_succ_cons, List.drop_zero]
        repeat still_step
        refine wpStill_nil ?_
        go_wp2_with (go_at_call 55; refine (put_ref (f := 0) (l := 0) (a := a) (s := x.2) HBY.out HFL.out hgl hx2 (by omega) (by omega) (by omega) (by omega)).mono ?_; rintro e w4 ⟨rfl, hB4, hK4⟩)
        go_roundw
        case measure => simp [intOf]; omega
        case rel =>
          have e := HPF.out 0 (0) (by omega)
          have hn := HNX.out
          rw [HKK.out] at hn
          rw [HTE.out, ← hn] at e
          have e2 := hB4
          rw [show 0 - 0 = 0 by omega, e] at e2
          exact ⟨k + 1, by omega, by go_num, Lib.hid (HRR.out.put e2 hK4 (by rw [tearL_len, HLEN.out]) HN64.out), kept_sets2 hK2 hK4 (.inr (.inl rfl))⟩
    · obtain rfl : k = rs.L.length := by omega
      rw [List.take_length] at hR HLEN
      have f1 := hR.out.free 1
      have f2 := hR.out.free 2
      have f4 := hR.out.free 4
      go_wp2_with fail
      go_end0
      have hx : rfoot R R.b := .inl rfl
      exact RfPost.crashed hR.out hK rfl
end Go.Proofs.YtaljgcdjkmpljaaDoor
