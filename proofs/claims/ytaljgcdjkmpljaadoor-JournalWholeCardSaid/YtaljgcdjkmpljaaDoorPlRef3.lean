/- The reference's plate: New, Image, Get. -/
import Derived.Test.YtaljgcdjkmpljaaDoorPlRef2
namespace Go.Proofs.YtaljgcdjkmpljaaDoor
open Go.RowKit Lift
set_option linter.unusedSimpArgs false
set_option linter.unusedVariables false

def toWr (x : RLo) : Wr := (x.1.toNat, pad x.2)
def rno (rs : RSt) : Secs := setAll (rs.L.map toWr) rs.su
theorem spl_full {y : List UInt8} {s : ByteArray} (hy : y.length = 64) (hs : s.size ≤ 64) : spl y s 0 64 = pad s := by
  have := pad_len hs
  unfold spl
  rw [List.take_zero, List.drop_zero, List.nil_append, List.take_of_length_le (by omega), List.drop_of_length_le (by omega), List.append_nil]
theorem rlo_get {base : Nat} {w : World} {v : Value} {l : List RLo} (h : Own rRLo (fun _ => True) w base 94 v l) {k : Nat} {c : RLo} (hk : l[k]? = some c) :
    ∃ g cap, v = .slice (some ⟨g, 0, none⟩) l.length cap ∧ w.cell? ⟨g, k * 2, none⟩ = some (.int .i64 c.1) ∧ w.cell? ⟨g, k * 2 + 1, none⟩ = some (.string c.2) := by
  obtain ⟨g, cap, rfl⟩ := own_some h (by rintro rfl; simp at hk)
  obtain ⟨cs, ⟨c1, c2, rfl, ⟨rfl, _⟩, ⟨rfl, _⟩⟩, hc⟩ := h.at hk
  exact ⟨g, cap, rfl, by simpa [rRLo, Rd.pair, Rd.int, Rd.str] using hc 0 _ rfl, by simpa [rRLo, Rd.pair, Rd.int, Rd.str] using hc 1 _ rfl⟩
theorem bytes_cell {w : World} {g : Nat} {l : List UInt8} (h : Bytes w g l) {j : Nat} {u : Value} (hu : (Cs l)[j]? = some u) : w.cell? ⟨g, 0 + j, none⟩ = some u := by
  have hj : j < l.length := by have := (List.getElem?_eq_some_iff.1 hu).1; rwa [cs_len] at this
  rw [Nat.zero_add, h.cell j hj]
  simpa [Lib.byteCells, hj, List.getD_eq_getElem?_getD] using hu
theorem own_bytes {w : World} {base g n cap : Nat} {e : TypeId} {l : List UInt8} (h : w.ownsRow base e 1 (.slice (some ⟨g, 0, none⟩) n cap) n (Cs l)) : Bytes w g l := by
  intro j hj
  refine ⟨?_, h.frozenAt j⟩
  have := h.cells (g := g) rfl j (.int .u8 ((l.getD j 0).toNat : Int)) (by simp [Lib.byteCells, hj, List.getD_eq_getElem?_getD])
  rw [Addr.add_mid, Nat.zero_add] at this
  exact this
theorem made_row (w : World) (base : Nat) (hb : base ≤ w.heap.size) : (w.alloc (.cells #[] 5)).ownsRow base 5 1 (.slice (some ⟨w.heap.size, 0, none⟩) 0 0) 0 [] :=
  World.ownsRow_made w #[] 0 hb (by simp [maxLen]) (by simp)
set_option maxHeartbeats 1000000 in
set_option maxRecDepth 100000 in
theorem image_ref {base : Nat} {w : World} {R : RF} {rs : RSt} (h : RRaw base w R rs) (hll : rs.L.length ≤ 1000000000) : Calls Tryd.prog 33 #[.pointer (some ⟨R.b, 0, none⟩)] w (StrPost (imageB (rno rs)) w) := by
  obtain ⟨c0, c1, _, _, _⟩ := h.cells
  obtain ⟨i0, hi, hz0, hz1, hz2⟩ := info_parts u8_row
  have H := Lib.hid h
  have hn1 := h.n1
  have hn2 := h.n2
  have HI := Lib.hid hi
  have HZ0 := Lib.hid hz0
  have HZ1 := Lib.hid hz1
  have HZ2 := Lib.hid hz2
  have HF := Lib.hid (flat_len h.s64)
  obtain ⟨ao, lcap, elv⟩ := h.own2.form
  rw [elv] at c1
  have HLV := Lib.hid elv
  have hgb := h.lt.1
  have hgg := h.lt.2.1
  have HC0 := Lib.hid (show (w.alloc (.cells #[] 5)).cell? ⟨R.b, 0, none⟩ = _ from (((Below.refl _ w).alloc (Nat.le_refl _) _).cell (p := ⟨R.b, 0, none⟩) hgb).trans c0)
  clear h hi hz0 hz1 hz2 elv
  go_enter Tryd.func33, Tryd.ntmps33
  go_wp2_with (at_builtin; refine wpList_append2 rfl _ _ 32 rfl w.heap.size 5 i0 (.int .u8 0) 1 1 Tryd.underlying32 HI.out HZ0.out HZ1.out HZ2.out rfl (by decide) _ 0 [] rfl (made_row w _ (Nat.le_refl _)) (some ⟨R.g, 0, none⟩) (64 * rs.su.length) R.cap (Cs rs.su.flatten) rfl (by intro h; cases h) (by rw [cs_len, HF.out]; omega) (fun a ha j u hu => by
      injection ha with ha; subst ha
      rw [Addr.add_mid]
      refine (((Below.refl _ w).alloc (Nat.le_refl _) _).cell (p := ⟨R.g, 0 + j, none⟩) hgg).trans ?_
      exact bytes_cell H.out.own1 hu) (cs_one _) (by unfold maxLen; omega) (by omega) (by simp) ?_; intro v2 w2 hO2 hg2 _ hw2; rw [List.nil_append, Nat.zero_add] at hO2)
  obtain ⟨g2, cap2, rfl⟩ : ∃ g2 cap2, v2 = .slice (some ⟨g2, 0, none⟩) (64 * rs.su.length) cap2 := by
    rcases hO2.2 with ⟨e1, e2⟩ | ⟨g, cap', cur, e1, _⟩
    · omega
    · exact ⟨g, cap', e1⟩
  have hgr := hO2.lt g2 rfl
  have hB2 : Below w.heap.size w w2 := (Kept.alloc (fun k => w.heap.size ≤ k) w _).trans (Kept.of_grown hg2) (fun _ _ h => h) (fun k _ e => by injection e with e; exact Nat.le_of_eq e.symm) |>.below (Nat.le_refl _) (fun k h => h)
  have hby := own_bytes hO2
  have HL0 := Lib.hid (show Bytes w2 g2 (setAll ((rs.L.take 0).map toWr) rs.su).flatten from hby)
  clear hO2 hg2 hw2 hby c0 c1
  go_loopw [4] (fun v4 wr => ∃ k : Nat, k ≤ rs.L.length ∧ v4 = .int .i64 k ∧ Hid (Bytes wr g2 (setAll ((rs.L.take k).map toWr) rs.su).flatten) ∧ Below w.heap.size w wr ∧ g2 < wr.heap.size) (fun v4 _ => rs.L.length - (intOf v4).toNat)
  case atStart => exact ⟨0, by omega, rfl, HL0, hB2, hgr.2⟩
  case round =>
    obtain ⟨k, hk, rfl, hBy, hB, hgl⟩ := hrel
    have HR := Lib.hid (H.out.below hB)
    obtain ⟨d0, d1, _, _, _⟩ := HR.out.cells
    rw [HLV.out] at d1
    have hsl : (setAll ((rs.L.take k).map toWr) rs.su).length = rs.su.length := setAll_len _ _
    have h64 : ∀ d ∈ setAll ((rs.L.take k).map toWr) rs.su, d.length = 64 := no64 H.out.s64 (fun x hx => by
      obtain ⟨y, hy, rfl⟩ := List.mem_map.1 hx
      exact pad_len (H.out.lat y (List.mem_of_mem_take hy)).2.2)
    by_cases hkl : k < rs.L.length
    · obtain ⟨x, hx⟩ := some_at hkl
      obtain ⟨g3, cap3, e3, y0, y1⟩ := rlo_get HR.out.own2 hx
      obtain ⟨rfl, rfl⟩ : ao = some ⟨g3, 0, none⟩ ∧ cap3 = lcap := by rw [HLV.out] at e3; injection e3 with a b c; exact ⟨a, c.symm⟩
      obtain ⟨hx0, hx1, hx2⟩ := H.out.lat x (List.mem_of_getElem? hx)
      obtain ⟨a, ha⟩ : ∃ a : Nat, x.1 = (a : Int) := ⟨x.1.toNat, by omega⟩
      rw [ha] at y0
      have hal : a < rs.su.length := by omega
      obtain ⟨y, hy⟩ := some_at (l := setAll ((rs.L.take k).map toWr) rs.su) (k := a) (by rw [hsl]; exact hal)
      have hpf := putB_flat (f := 0) (k := 64) h64 hy (by omega) hx2
      rw [spl_full (h64 y (List.mem_of_getElem? hy)) hx2] at hpf
      have hnx : (setAll ((rs.L.take k).map toWr) rs.su).set a (pad x.2) = setAll ((rs.L.take (k + 1)).map toWr) rs.su := by
        rw [take_at2 hx, List.map_append, List.map_cons, List.map_nil, setAll_snoc]
        simp [toWr, ha]
      rw [hnx] at hpf
      have HPF := Lib.hid hpf
      have HFL := Lib.hid (show (setAll ((rs.L.take k).map toWr) rs.su).flatten.length = 64 * rs.su.length by rw [flat_len h64, hsl])
      have hkl2 : (k : Int) < (rs.L.length : Int) := by omega
      have hlim : k ≤ 1000000000 := by omega
      clear hpf hnx hy hx ha hx0 hx1 e3 hsl h64
      go_wp2_with (go_at_call 55; refine (put_ref (f := 0) (l := 64) (a := a) (s := x.2) hBy.out HFL.out hgl hx2 (by omega) (Nat.le_refl _) (by omega) (by omega)).mono ?_; rintro e w4 ⟨rfl, hB4, hK4⟩)
      go_roundw
      case measure => simp [intOf]; omega
      case rel =>
        refine ⟨k + 1, by omega, by go_num, Lib.hid (by rw [← HPF.out]; exact hB4), hB.trans (hK4.below hB.size (fun j hj => by subst hj; exact hgr.1)), Nat.lt_of_lt_of_le hgl hK4.size⟩
    · obtain rfl : k = rs.L.length := by omega
      rw [List.take_length] at hBy hsl h64
      have hst := Bytes.string (P := Tryd.prog) hBy.out 32 9 5 cap2 (64 * rs.su.length) (by rw [flat_len h64, hsl]) Tryd.underlying32 Tryd.underlying5 Tryd.underlying9
      have HH := Lib.hid hsl
      clear hsl h64
      go_wp2_with fail
      go_ret
      exact ⟨rfl, hB⟩
end Go.Proofs.YtaljgcdjkmpljaaDoor
