/- The reference's plate: Get, New. -/
import Derived.Test.YtaljgcdjkmpljaaDoorPlRef3
namespace Go.Proofs.YtaljgcdjkmpljaaDoor
open Go.RowKit Lift
set_option linter.unusedSimpArgs false
set_option linter.unusedVariables false

def rthereE (rs : RSt) (x : Int) : Int := if rs.off then 12 else if x < 0 ∨ (rs.su.length : Int) ≤ x then 2 else 0
def rgetV (rs : RSt) (x : Int) : Value := if rthereE rs x = 0 then .tuple #[.string ⟨((rno rs).getD x.toNat []).toArray⟩, .int .i64 0] else .tuple #[.string ⟨#[]⟩, .int .i64 (rthereE rs x)]
theorem put_one {y : List UInt8} {s : ByteArray} (hy : y.length = 64) (hs : s.size ≤ 64) : putB y (64 * 0) s 0 64 = pad s := by
  have := putB_flat (l := [y]) (a := 0) (f := 0) (k := 64) (y := y) (s := s) (by simp [hy]) rfl (by omega) hs
  rw [spl_full hy hs] at this
  simpa using this
set_option maxHeartbeats 1000000 in
set_option maxRecDepth 100000 in
theorem get_ref {base : Nat} {w : World} {R : RF} {rs : RSt} (h : RRaw base w R rs) (x : Int) (hll : rs.L.length ≤ 1000000000) : Calls Tryd.prog 57 #[.pointer (some ⟨R.b, 0, none⟩), .int .i64 x] w (BelowPost (rgetV rs x) w) := by
  obtain ⟨c0, c1, _, _, c4⟩ := h.cells
  have HS := Lib.hid (size_ref h)
  cases ho : rs.off with
  | true =>
    rw [ho] at c4
    have e : rgetV rs x = .tuple #[.string ⟨#[]⟩, .int .i64 12] := by simp [rgetV, rthereE, ho]
    rw [e]
    clear ho h e
    go_enter Tryd.func57, Tryd.ntmps57
    go_wp2_with fail
    go_ret2
    exact ⟨rfl, Below.refl _ _⟩
  | false =>
    rw [ho] at c4
    by_cases h0 : x < 0
    · have hd : decide (x < 0) = true := by simpa using h0
      have e : rgetV rs x = .tuple #[.string ⟨#[]⟩, .int .i64 2] := by simp [rgetV, rthereE, ho, h0]
      rw [e]
      clear ho h e h0
      go_enter Tryd.func57, Tryd.ntmps57
      go_wp2_with fail
      go_ret2
      exact ⟨rfl, Below.refl _ _⟩
    · have hd : decide (x < 0) = false := by simpa using h0
      by_cases h1 : (rs.su.length : Int) ≤ x
      · have hd1 : decide ((rs.su.length : Int) ≤ x) = true := by simpa using h1
        have e : rgetV rs x = .tuple #[.string ⟨#[]⟩, .int .i64 2] := by simp [rgetV, rthereE, ho, h1]
        rw [e]
        clear ho h e h0 h1
        go_enter Tryd.func57, Tryd.ntmps57
        go_wp2_with ((with_reducible refine (HS.out).mono ?_); rintro e w' ⟨rfl, rfl⟩)
        go_ret2
        exact ⟨rfl, Below.refl _ _⟩
      · obtain ⟨a, rfl⟩ : ∃ a : Nat, x = (a : Int) := ⟨x.toNat, by omega⟩
        have hal : a < rs.su.length := by omega
        have hd1 : decide (rs.su.length ≤ a) = false := by simp; omega
        have hd1i : decide ((rs.su.length : Int) ≤ (a : Int)) = false := by simp; omega
        have e : rgetV rs a = .tuple #[.string ⟨((rno rs).getD a []).toArray⟩, .int .i64 0] := by
          have : rthereE rs a = 0 := by unfold rthereE; rw [ho, if_neg (by simp), if_neg (by omega)]
          simp [rgetV, this]
        rw [e]
        obtain ⟨y, hy⟩ := some_at hal
        have hy64 := h.s64 y (List.mem_of_getElem? hy)
        obtain ⟨i0, hi, hz0, hz1, hz2⟩ := info_parts u8_row
        have H := Lib.hid h
        have hn1 := h.n1
        have hn2 := h.n2
        have hcap := h.hcap
        have hcm := h.hcm
        have HI := Lib.hid hi
        have HZ0 := Lib.hid hz0
        have HZ1 := Lib.hid hz1
        have HZ2 := Lib.hid hz2
        obtain ⟨ao, lcap, elv⟩ := h.own2.form
        rw [elv] at c1
        have HLV := Lib.hid elv
        have hgb := h.lt.1
        have hgg := h.lt.2.1
        have HC0 := Lib.hid (show (w.alloc (.cells #[] 5)).cell? ⟨R.b, 0, none⟩ = _ from (((Below.refl _ w).alloc (Nat.le_refl _) _).cell (p := ⟨R.b, 0, none⟩) hgb).trans c0)
        have HNW := Lib.hid (show ∀ j u, (Cs y)[j]? = some u → (w.alloc (.cells #[] 5)).cell? ⟨R.g, 64 * a + j, none⟩ = some u from fun j u hu => by
          refine (((Below.refl _ w).alloc (Nat.le_refl _) _).cell (p := ⟨R.g, 64 * a + j, none⟩) hgg).trans ?_
          have hj : j < 64 := by have := (List.getElem?_eq_some_iff.1 hu).1; rw [cs_len, hy64] at this; exact this
          have hfl : (rs.su.flatten)[64 * a + j]? = y[j]? := by rw [flat_get a j H.out.s64 hj, hy]; rfl
          have hu2 : (Cs rs.su.flatten)[64 * a + j]? = some u := by
            simp only [Lib.byteCells, List.getElem?_map] at hu ⊢
            rw [hfl]; exact hu
          have := bytes_cell H.out.own1 hu2
          rwa [Nat.zero_add] at this)
        have ha1 : (a : Int) ≤ 8192 := by omega
        have hca : ¬ R.cap = 64 * a := by omega
        have HA := Lib.hid (show 64 * a + 64 - 64 * a = 64 by omega)
        have hca2 : (64 : Int) * (a : Int) + 64 ≤ (R.cap : Int) := by omega
        have hca3 : 64 * a + 64 ≤ R.cap := by omega
        have HY := Lib.hid hy
        have HY64 := Lib.hid hy64
        unfold maxLen at hcm
        clear ho h e h0 h1 hi hz0 hz1 hz2 elv hy hy64
        go_enter Tryd.func57, Tryd.ntmps57
        go_wp2_with (first
          | ((with_reducible refine (HS.out).mono ?_); rintro e w' ⟨rfl, rfl⟩)
          | (at_builtin; refine wpList_append2 rfl _ _ 32 rfl w.heap.size 5 i0 (.int .u8 0) 1 1 Tryd.underlying32 HI.out HZ0.out HZ1.out HZ2.out rfl (by decide) _ 0 [] rfl (made_row w _ (Nat.le_refl _)) (some ⟨R.g, 64 * a, none⟩) (64 * a + 64 - 64 * a) _ (Cs y) rfl (by intro h; cases h) (by rw [cs_len, HY64.out]; omega) (fun a ha j u hu => by injection ha with ha; subst ha; rw [Addr.add_mid]; exact HNW.out j u hu) (cs_one _) (by unfold maxLen; omega) (by omega) (by simp) ?_; intro v2 w2 hO2 hg2 _ hw2; rw [List.nil_append, Nat.zero_add, HA.out] at hO2))
        obtain ⟨g2, cap2, rfl⟩ : ∃ g2 cap2, v2 = .slice (some ⟨g2, 0, none⟩) 64 cap2 := by
          rcases hO2.2 with ⟨e1, e2⟩ | ⟨g, cap', cur, e1, _⟩
          · omega
          · exact ⟨g, cap', e1⟩
        have hgr := hO2.lt g2 rfl
        have hB2 : Below w.heap.size w w2 := (Kept.alloc (fun k => w.heap.size ≤ k) w _).trans (Kept.of_grown hg2) (fun _ _ h => h) (fun k _ e => by injection e with e; exact Nat.le_of_eq e.symm) |>.below (Nat.le_refl _) (fun k h => h)
        have HL0 := Lib.hid (show Bytes w2 g2 ((setAll ((rs.L.take 0).map toWr) rs.su).getD a []) by
          show Bytes w2 g2 (rs.su.getD a [])
          rw [List.getD_eq_getElem?_getD, HY.out]
          exact own_bytes hO2)
        clear hO2 hg2 hw2 c0 c1 hca hca2 hca3
        go_loopw [7] (fun v7 wr => ∃ k : Nat, k ≤ rs.L.length ∧ v7 = .int .i64 k ∧ Hid (Bytes wr g2 ((setAll ((rs.L.take k).map toWr) rs.su).getD a [])) ∧ Below w.heap.size w wr ∧ g2 < wr.heap.size) (fun v7 _ => rs.L.length - (intOf v7).toNat)
        case atStart => exact ⟨0, by omega, rfl, HL0, hB2, hgr.2⟩
        case round =>
          obtain ⟨k, hk, rfl, hBy, hB, hgl⟩ := hrel
          have HR := Lib.hid (H.out.below hB)
          obtain ⟨d0, d1, _, _, _⟩ := HR.out.cells
          rw [HLV.out] at d1
          have hsl : (setAll ((rs.L.take k).map toWr) rs.su).length = rs.su.length := setAll_len _ _
          have h64 : ∀ d ∈ setAll ((rs.L.take k).map toWr) rs.su, d.length = 64 := no64 H.out.s64 (fun x hx => by
            obtain ⟨y, hy, rfl⟩ := List.mem_map.1 hx
            exact pad_len (H.out.lat y (List.mem_of_mem_take hy)).2.2)
          obtain ⟨z, hz⟩ := some_at (l := setAll ((rs.L.take k).map toWr) rs.su) (k := a) (by rw [hsl]; exact hal)
          have hz64 := h64 z (List.mem_of_getElem? hz)
          have hzd : (setAll ((rs.L.take k).map toWr) rs.su).getD a [] = z := by rw [List.getD_eq_getElem?_getD, hz]; rfl
          rw [hzd] at hBy
          by_cases hkl : k < rs.L.length
          · obtain ⟨x, hx⟩ := some_at hkl
            obtain ⟨g3, cap3, e3, y0, y1⟩ := rlo_get HR.out.own2 hx
            obtain ⟨rfl, rfl⟩ : ao = some ⟨g3, 0, none⟩ ∧ cap3 = lcap := by rw [HLV.out] at e3; injection e3 with a b c; exact ⟨a, c.symm⟩
            obtain ⟨hx0, hx1, hx2⟩ := H.out.lat x (List.mem_of_getElem? hx)
            have HNX := Lib.hid (show (setAll ((rs.L.take (k + 1)).map toWr) rs.su).getD a [] = if x.1.toNat = a then pad x.2 else z by
              rw [take_at2 hx, List.map_append, List.map_cons, List.map_nil, setAll_snoc]
              simp only [toWr, List.getD_eq_getElem?_getD]
              by_cases e : x.1.toNat = a
              · rw [if_pos e, e, List.getElem?_set_self (by rw [hsl]; exact hal)]; rfl
              · rw [if_neg e, List.getElem?_set_ne e, hz]; rfl)
            have hkl2 : (k : Int) < (rs.L.length : Int) := by omega
            have hlim : k ≤ 1000000000 := by omega
            have HP := Lib.hid (put_one hz64 hx2)
            clear hx e3 hsl h64 hz hzd
            by_cases hxa : x.1 = (a : Int)
            · have hq : (x.1 == (a : Int)) = true := by simpa using hxa
              rw [hxa] at y0
              have hxt : x.1.toNat = a := by omega
              have HXT := Lib.hid hxt
              clear hxa hx0 hx1 hq hxt
              go_wp2_with (go_at_call 55; refine (put_ref (f := 0) (l := 64) (a := 0) (s := x.2) hBy.out hz64 hgl hx2 (by omega) (Nat.le_refl _) (by omega) (by omega)).mono ?_; rintro e w4 ⟨rfl, hB4, hK4⟩)
              go_roundw
              case measure => simp [intOf]; omega
              case rel =>
                refine ⟨k + 1, by omega, by go_num, Lib.hid (by rw [HNX.out, if_pos HXT.out, ← HP.out]; exact hB4), hB.trans (hK4.below hB.size (fun j hj => by subst hj; exact hgr.1)), Nat.lt_of_lt_of_le hgl hK4.size⟩
            · have hq : (x.1 == (a : Int)) = false := by simpa using hxa
              have HXT := Lib.hid (show ¬ x.1.toNat = a by omega)
              clear hxa hx0 hx1
              go_wp2_with fail
              go_roundw
              case measure => simp [intOf]; omega
              case rel =>
                refine ⟨k + 1, by omega, by go_num, Lib.hid (by rw [HNX.out, if_neg HXT.out]; exact hBy.out), hB, hgl⟩
          · obtain rfl : k = rs.L.length := by omega
            rw [List.take_length] at hzd
            have hst := Bytes.string (P := Tryd.prog) hBy.out 32 9 5 cap2 64 hz64.symm Tryd.underlying32 Tryd.underlying5 Tryd.underlying9
            have HZ := Lib.hid (show (rno rs).getD a [] = z from hzd)
            clear hsl h64 hz hzd hz64
            go_wp2_with fail
            go_ret2
            refine ⟨?_, hB⟩
            have := HZ.out
            rw [List.getD_eq_getElem?_getD] at this
            simp [this]
end Go.Proofs.YtaljgcdjkmpljaaDoor
