/- A reader of a record: what it takes. -/
import Derived.Test.YtdebfnlnpfienaaGreatDoorKeA
import Derived.Test.YtdebfnlnpfienaaGreatDoorKe14
import Derived.Test.YtdebfnlnpfienaaGreatDoorOrdEach
import Derived.StillTailTactics
import Derived.Laws.EntriesVeiled
import Derived.Test.YtdebfnlnpfienaaGreatDoorKeInv
namespace Go.Proofs.YtdebfnlnpfienaaGreatDoor
open Go.RowKit Lift
set_option linter.unusedSimpArgs false
set_option linter.unusedVariables false

/-- A reader at a place of a text, nothing wrong. -/
def RAt (w : World) (rb : Nat) (t : ByteArray) (a : Nat) : Prop := w.heap[rb]? = some (.cells #[.string t, .int .i64 a, .int .i64 0] 144 (0, 0))
section
variable {w w' : World} {rb : Nat} {t : ByteArray} {a : Nat}
theorem RAt.lt (h : RAt w rb t a) : rb < w.heap.size := (Array.getElem?_eq_some_iff.1 h).1
theorem RAt.below (h : RAt w rb t a) (hb : Below w.heap.size w w') : RAt w' rb t a := (hb.block rb h.lt).trans h
theorem RAt.kept {X : Nat → Prop} (h : RAt w rb t a) (hb : Kept X w w') (hx : ¬ X rb) : RAt w' rb t a := (hb.block rb h.lt hx).trans h
theorem RAt.cells (h : RAt w rb t a) : w.cell? ⟨rb, 0, none⟩ = some (.string t) ∧ w.cell? ⟨rb, 1, none⟩ = some (.int .i64 a) ∧ w.cell? ⟨rb, 2, none⟩ = some (.int .i64 0) :=
  ⟨by rw [Lib.cell_of_heap h]; rfl, by rw [Lib.cell_of_heap h]; rfl, by rw [Lib.cell_of_heap h]; rfl⟩
theorem RAt.free (h : RAt w rb t a) (i : Nat) : w.frozen? ⟨rb, i, none⟩ = false := Lib.frozen_of_heap h i
theorem RAt.move (h : RAt w rb t a) (b : Nat) : RAt (w.setCell ⟨rb, 1, none⟩ (.int .i64 b)) rb t b := by
  unfold RAt at *
  simp [World.setCell, Array.getElem?_modify, h]
end
/-- What a step of a reader leaves. -/
def RPost (rb : Nat) (t : ByteArray) (a : Nat) (v : Value) (w : World) (e : Ending) (w' : World) : Prop := e = .returned v ∧ RAt w' rb t a ∧ Kept (fun k => k = rb) w w'
set_option maxHeartbeats 1000000 in
set_option maxRecDepth 100000 in
theorem rleft2_any {w : World} {rb : Nat} {t : ByteArray} {a : Nat} (h : RAt w rb t a) (ht : t.size ≤ 100000000) (ha : a ≤ t.size) : Calls Tryz.prog 74 #[.pointer (some ⟨rb, 0, none⟩)] w (BelowPost (.int .i64 ((t.size - a : Nat) : Int)) w) := by
  obtain ⟨c0, c1, c2⟩ := h.cells
  have e : ((t.size - a : Nat) : Int) = (t.size : Int) - (a : Int) := by omega
  rw [e]
  clear h
  go_enter Tryz.func74, Tryz.ntmps74
  go_wp2_with fail
  (refine wp_region_quiet_lit (by kernel_rfl) (by kernel_rfl) ?_; (repeat (any_goals (first | go_big_quiet_step (fail) | quiet_step (fail) | (refine wpQuiet_step (fun K hK => ?_); go_simp; split <;> (refine hK _ ?_; clear hK K))))); all_goals (refine wpQuiet_nil ?_; intro _ hw'; obtain ⟨nq, hw''⟩ := hw'; subst hw''))
  go_wp2_with fail
  go_ret
  exact ⟨rfl, below_drewN (Below.refl _ _) _⟩
set_option maxHeartbeats 1000000 in
set_option maxRecDepth 100000 in
theorem err_any {w : World} {rb : Nat} {t : ByteArray} {a : Nat} (h : RAt w rb t a) : Calls Tryz.prog 73 #[.pointer (some ⟨rb, 0, none⟩)] w (BelowPost (.tuple #[.int .i64 a, .int .i64 0]) w) := by
  obtain ⟨c0, c1, c2⟩ := h.cells
  clear h
  go_enter Tryz.func73, Tryz.ntmps73
  go_wp2_with fail
  (refine wp_region_quiet_lit (by kernel_rfl) (by kernel_rfl) ?_; (repeat (any_goals (first | go_big_quiet_step (fail) | quiet_step (fail) | (refine wpQuiet_step (fun K hK => ?_); go_simp; split <;> (refine hK _ ?_; clear hK K))))); all_goals (refine wpQuiet_nil ?_; intro _ hw'; obtain ⟨nq, hw''⟩ := hw'; subst hw''))
  go_wp2_with fail
  go_ret2
  exact ⟨rfl, below_drewN (Below.refl _ _) _⟩
set_option maxHeartbeats 1000000 in
set_option maxRecDepth 100000 in
theorem many_any {w : World} {rb : Nat} {t : ByteArray} {a : Nat} (h : RAt w rb t a) (ht : t.size ≤ 100000000) (k : Nat) (hk : a + k ≤ t.size) : Calls Tryz.prog 99 #[.pointer (some ⟨rb, 0, none⟩), .int .i64 k] w (BelowPost (.tuple #[.int .i64 k, .int .i64 0]) w) := by
  have HL := Lib.hid (rleft2_any h ht (by omega))
  have hx : ¬ ((t.size - a : Nat) : Int) < (k : Int) := by omega
  have hy : ¬ (k : Int) < 0 := by omega
  generalize t.size - a = m at *
  clear h
  go_enter Tryz.func99, Tryz.ntmps99
  go_wp2_with fail
  refine HL.out.mono ?_
  rintro e w1 ⟨rfl, hb⟩
  go_wp2_with fail
  go_ret2
  exact ⟨rfl, hb⟩
set_option maxHeartbeats 2000000 in
set_option maxRecDepth 100000 in
theorem take_sevens {w : World} {rb : Nat} {t : ByteArray} {a : Nat} (h : RAt w rb t a) (ht : t.size ≤ 100000000) (k : Nat) (hk : a + k ≤ t.size)  (hc : Calls Tryz.prog 100 #[.pointer (some ⟨rb, 0, none⟩)] w (BelowPost (.tuple #[.int .i64 k, .int .i64 0]) w)) :
    Calls Tryz.prog 97 #[.pointer (some ⟨rb, 0, none⟩), .func (.func 100) #[.pointer (some ⟨rb, 0, none⟩)] #[]] w (RPost rb t (a + k) (.string (t.extract a (a + k))) w) := by
  obtain ⟨c0, c1, c2⟩ := h.cells
  have HC := Lib.hid hc
  have H := Lib.hid h
  have hlt := h.lt
  clear hc h
  go_enter Tryz.func97, Tryz.ntmps97
  go_wp2_with fail
  refine HC.out.mono ?_
  rintro e w1 ⟨rfl, hb1⟩
  have H1 := H.out.below hb1
  obtain ⟨c0, c1, c2⟩ := H1.cells
  have hlt1 := H1.lt
  have hi1 : (a : Int) ≤ (a : Int) + (k : Int) := by omega
  have hi2 : (a : Int) + (k : Int) ≤ (t.size : Int) := by omega
  have hi3 : a ≤ a + k := by omega
  have hi4 : a + k ≤ t.size := hk
  have f1 := H1.free 1
  have HH := Lib.hid H1
  clear H1
  go_wp2_with fail
  (refine wp_region_quiet_lit (by kernel_rfl) (by kernel_rfl) ?_; (repeat (any_goals (first | go_big_quiet_step (fail) | quiet_step (fail) | (refine wpQuiet_step (fun K hK => ?_); go_simp; split <;> (refine hK _ ?_; clear hK K))))); all_goals (refine wpQuiet_nil ?_; intro _ hw'; obtain ⟨nq, hw''⟩ := hw'; subst hw''))
  obtain ⟨W2, hW2⟩ : ∃ x, w1.drewN nq = x := ⟨_, rfl⟩
  have hB2 : Below w1.heap.size w1 W2 := by rw [← hW2]; exact below_drewN (Below.refl _ _) _
  rw [hW2]
  have H2 := HH.out.below hB2
  have HK := Lib.hid ((Kept.of_below (chain hb1 hB2) (fun k => k = rb)).set (p := ⟨rb, 1, none⟩) (u := .int .i64 ((a : Int) + (k : Int))) rfl)
  have HM := Lib.hid (show RAt (W2.setCell ⟨rb, 1, none⟩ (.int .i64 ((a : Int) + (k : Int)))) rb t (a + k) from by have := H2.move (a + k); rwa [Int.natCast_add] at this)
  obtain ⟨d0, d1, d2⟩ := H2.cells
  have e1 := H2.free 1
  clear H2 hW2 hB2 c0 c1 c2 HH
  go_wp2_with fail
  go_ret
  exact ⟨rfl, HM.out, HK.out⟩
set_option maxHeartbeats 2000000 in
set_option maxRecDepth 100000 in
theorem take_bytes {w : World} {rb : Nat} {t : ByteArray} {a : Nat} (h : RAt w rb t a) (ht : t.size ≤ 100000000) (k : Nat) (hk : a + k ≤ t.size) (b1 b2 : Nat) (hc : Calls Tryz.prog 98 #[.pointer (some ⟨b1, 0, none⟩), .pointer (some ⟨b2, 0, none⟩)] w (BelowPost (.tuple #[.int .i64 k, .int .i64 0]) w)) :
    Calls Tryz.prog 97 #[.pointer (some ⟨rb, 0, none⟩), .func (.func 98) #[] #[.pointer (some ⟨b1, 0, none⟩), .pointer (some ⟨b2, 0, none⟩)]] w (RPost rb t (a + k) (.string (t.extract a (a + k))) w) := by
  obtain ⟨c0, c1, c2⟩ := h.cells
  have HC := Lib.hid hc
  have H := Lib.hid h
  have hlt := h.lt
  clear hc h
  go_enter Tryz.func97, Tryz.ntmps97
  go_wp2_with fail
  refine HC.out.mono ?_
  rintro e w1 ⟨rfl, hb1⟩
  have H1 := H.out.below hb1
  obtain ⟨c0, c1, c2⟩ := H1.cells
  have hlt1 := H1.lt
  have hi1 : (a : Int) ≤ (a : Int) + (k : Int) := by omega
  have hi2 : (a : Int) + (k : Int) ≤ (t.size : Int) := by omega
  have hi3 : a ≤ a + k := by omega
  have hi4 : a + k ≤ t.size := hk
  have f1 := H1.free 1
  have HH := Lib.hid H1
  clear H1
  go_wp2_with fail
  (refine wp_region_quiet_lit (by kernel_rfl) (by kernel_rfl) ?_; (repeat (any_goals (first | go_big_quiet_step (fail) | quiet_step (fail) | (refine wpQuiet_step (fun K hK => ?_); go_simp; split <;> (refine hK _ ?_; clear hK K))))); all_goals (refine wpQuiet_nil ?_; intro _ hw'; obtain ⟨nq, hw''⟩ := hw'; subst hw''))
  obtain ⟨W2, hW2⟩ : ∃ x, w1.drewN nq = x := ⟨_, rfl⟩
  have hB2 : Below w1.heap.size w1 W2 := by rw [← hW2]; exact below_drewN (Below.refl _ _) _
  rw [hW2]
  have H2 := HH.out.below hB2
  have HK := Lib.hid ((Kept.of_below (chain hb1 hB2) (fun k => k = rb)).set (p := ⟨rb, 1, none⟩) (u := .int .i64 ((a : Int) + (k : Int))) rfl)
  have HM := Lib.hid (show RAt (W2.setCell ⟨rb, 1, none⟩ (.int .i64 ((a : Int) + (k : Int)))) rb t (a + k) from by have := H2.move (a + k); rwa [Int.natCast_add] at this)
  obtain ⟨d0, d1, d2⟩ := H2.cells
  have e1 := H2.free 1
  clear H2 hW2 hB2 c0 c1 c2 HH
  go_wp2_with fail
  go_ret
  exact ⟨rfl, HM.out, HK.out⟩

theorem and_low8 (c : UInt8) : bits .and .u8 (c.toNat : Int) 127 = ((c.toNat % 128 : Nat) : Int) := by
  have hc := c.toNat_lt
  have h1 : (BitVec.ofInt 8 (c.toNat : Int)).toNat = c.toNat := by
    rw [BitVec.ofInt_natCast, BitVec.toNat_ofNat]; exact Nat.mod_eq_of_lt (by omega)
  have h2 : (BitVec.ofInt 8 (127 : Int)).toNat = 127 := by decide
  show IntKind.u8.wrap ((BitVec.ofInt 8 (c.toNat : Int) &&& BitVec.ofInt 8 (127 : Int)).toNat : Int) = _
  rw [BitVec.toNat_and, h1, h2, show (127 : Nat) = 2 ^ 7 - 1 from rfl, Nat.and_two_pow_sub_one_eq_mod, IntKind.wrap_u8]
  omega
theorem or_seven (v c : Nat) (h : v * 128 + c % 128 ≤ 4294967295) : bits .or .u64 ((v * 128 : Nat) : Int) ((c % 128 : Nat) : Int) = ((v * 128 + c % 128 : Nat) : Int) := by
  rw [bits_or_u64_nat _ _ (by omega) (by omega)]
  have := Nat.shiftLeft_add_eq_or_of_lt (show c % 128 < 2 ^ 7 by omega) v
  rw [Nat.shiftLeft_eq] at this
  rw [show (2 ^ 7 : Nat) = 128 from rfl] at this
  rw [← this]
theorem lt12 {i : Nat} (h : i < 12) : i = 0 ∨ i = 1 ∨ i = 2 ∨ i = 3 ∨ i = 4 ∨ i = 5 ∨ i = 6 ∨ i = 7 ∨ i = 8 ∨ i = 9 ∨ i = 10 ∨ i = 11 := by omega
def RS (rb a cnt : Nat) (t : ByteArray) (D : List UInt8) : Nat → Value → World → Prop
  | 0, v, _ => v = .pointer (some ⟨rb, 0, none⟩)
  | 1, v, _ => v = .pointer (some ⟨rb, 0, none⟩)
  | 2, v, _ => v = .pointer (some ⟨rb, 0, none⟩)
  | 3, v, _ => v = .string t
  | 4, v, _ => v = .pointer (some ⟨rb, 0, none⟩)
  | 5, v, _ => v = .pointer (some ⟨rb, 0, none⟩)
  | 6, v, _ => v = .pointer (some ⟨rb, 1, none⟩)
  | 7, v, _ => v = .int .i64 a
  | 8, v, _ => v = .string (t.extract a t.size)
  | 9, v, w => ∃ g cp, v = .slice (some ⟨g, 0, none⟩) cnt cp ∧ g < w.heap.size ∧ Bytes w g D
  | 10, v, _ => v = .int .i64 cnt
  | 11, v, _ => v = .int .i64 0
  | _ + 12, _, _ => False
set_option maxHeartbeats 4000000 in
set_option maxRecDepth 100000 in
theorem sevens_any {w : World} {rb : Nat} {t : ByteArray} {a : Nat} (h : RAt w rb t a) (ht : t.size ≤ 100000000) (n : Nat) (hn : n < 4294967296) (rest : List UInt8) (hs : (bl t).drop a = mbL n ++ rest) : Calls Tryz.prog 100 #[.pointer (some ⟨rb, 0, none⟩)] w (BelowPost (.tuple #[.int .i64 ((mbL n).length : Nat), .int .i64 0]) w) := by
  obtain ⟨c0, c1, c2⟩ := h.cells
  have hsz : (bl t).length = t.size := Array.length_toList
  have hml := mbL_len n
  have hat : a + (mbL n).length + rest.length = t.size := by
    have h1 := congrArg List.length hs
    rw [List.length_drop, List.length_append, hsz] at h1
    by_cases hx : a ≤ t.size
    · omega
    · omega
  have hlt := h.lt
  clear h
  have hi1 : (a : Int) ≤ (t.size : Int) := by omega
  have hi2 : a ≤ t.size := by omega
  go_enter Tryz.func100, Tryz.ntmps100
  go_wp2_with fail
  have hE : (t.extract a t.size).data.toList = mbL n ++ rest := by
    rw [← hs]
    simp [bl, ByteArray.data_extract]
    exact List.take_of_length_le (by rw [List.length_drop]; exact Nat.le_of_eq (by rw [show t.data.toList.length = t.size from hsz]))
  have hcv := fun W => Lib.run_convert_string_bytes (P := Tryz.prog) W 9 83 5 (t.extract a t.size) (u := .string) Tryz.underlying9 Tryz.underlying83 Tryz.underlying5
  have HC0 := Lib.hid (fun W (hb : Below w.heap.size w W) => show W.cell? ⟨rb, 0, none⟩ = some (.string t) ∧ W.cell? ⟨rb, 1, none⟩ = some (.int .i64 a) from ⟨(hb.cell (p := ⟨rb, 0, none⟩) hlt).trans c0, (hb.cell (p := ⟨rb, 1, none⟩) hlt).trans c1⟩)
  have hxs : (t.extract a t.size).size = t.size - a := by simp [ByteArray.size_extract]
  refine wp_region_each (by kernel_rfl) (fun W => Below w.heap.size w W) (fun W W' => Below W.heap.size W W') (RS rb a (t.size - a) t (mbL n ++ rest)) (fun i => 7 + i) ?hd ?inj ?hord ?mono ?hS0 ?hop ?hfin
  case inj => intro i j _ _ h; omega
  case hS0 => exact (Below.refl _ _).drew
  case hd =>
    intro i o ho
    have hi : i < 12 := (Array.getElem?_eq_some_iff.1 ho).1
    rcases lt12 hi with rfl | rfl | rfl | rfl | rfl | rfl | rfl | rfl | rfl | rfl | rfl | rfl
    all_goals (cases ho; exact ⟨rfl, rfl, by simp⟩)
  case hord =>
    intro i o ho e he
    have hi : i < 12 := (Array.getElem?_eq_some_iff.1 ho).1
    rcases lt12 hi with rfl | rfl | rfl | rfl | rfl | rfl | rfl | rfl | rfl | rfl | rfl | rfl
    all_goals (cases ho; exact all_before (by kernel_rfl) e he)
  case mono =>
    intro i v W W' h hEx
    by_cases hi : i < 12
    · rcases lt12 hi with rfl | rfl | rfl | rfl | rfl | rfl | rfl | rfl | rfl | rfl | rfl | rfl
      all_goals first
        | exact h
        | (obtain ⟨g, cp, e1, e2, e3⟩ := h; exact ⟨g, cp, e1, Nat.lt_of_lt_of_le e2 hEx.size, fun j hj => ⟨(hEx.cell (p := ⟨g, j, none⟩) e2).trans (e3 j hj).1, (hEx.frozen (p := ⟨g, j, none⟩) e2).trans (e3 j hj).2⟩⟩)
    · exfalso
      obtain ⟨j, rfl⟩ : ∃ j, i = j + 12 := ⟨i - 12, by omega⟩
      exact h
  case hop =>
    intro i o' ho a' W hS hr he Kx hK
    have hi : i < 12 := (Array.getElem?_eq_some_iff.1 ho).1
    have h0 : a'.tmps[0]?.getD undef = .pointer (some ⟨rb, 0, none⟩) := by have := hr 0 (by intro j hj; show 7 + j ≠ 0; omega); simpa using this
    obtain ⟨cc0, cc1⟩ := HC0.out W hS
    clear hr
    rcases lt12 hi with rfl | rfl | rfl | rfl | rfl | rfl | rfl | rfl | rfl | rfl | rfl | rfl
    all_goals (simp only [List.getElem?_toArray, List.getElem?_cons_succ, List.getElem?_cons_zero, Option.some.injEq] at ho; subst ho; simp [RS, Region.binds] at he)
    all_goals (try (simp [go_sem, Oper.wp, execOp, Act.eval, he, h0, cc0, cc1, hi1, hi2]; exact hK _ _ hS (Below.refl _ _) rfl))
    · simp [go_sem, Oper.wp, execOp, Act.eval, he, hcv]
      exact hK _ _ (hS.trans ((Lib.bytesWorld_below W 5 (t.extract a t.size)).mono hS.size)) (Lib.bytesWorld_below W 5 (t.extract a t.size)) ⟨W.heap.size, _, by first | rfl | (rw [hxs]), by have := Lib.bytesWorld_size W 5 (t.extract a t.size); omega, by rw [← hE]; exact bytes_new W 5 (t.extract a t.size)⟩
    · obtain ⟨g, ⟨cp, hcp⟩, _⟩ := he
      simp [go_sem, Oper.wp, execOp, Act.eval, hcp]
      exact hK _ _ hS (Below.refl _ _) (by show _ = _; first | rfl | (congr 1; omega) | skip)
  case hfin =>
    intro a' W hS hdf htm hr hR
    have hm := act_mid 7 12 rfl (by simp) htm hdf (fun t ht => hr t (fun j hj => by have hj2 : j < 12 := hj; show 7 + j ≠ t; omega))
    obtain ⟨x, hx⟩ : ∃ x : Nat → Value, (fun i => a'.tmps.getD (7 + i) undef) = x := ⟨_, rfl⟩
    rw [hx] at hm
    obtain ⟨g, cp, e1, e2, hB⟩ := hR 9 (by decide)
    have r9 : x 9 = .slice (some ⟨g, 0, none⟩) (t.size - a) cp := by rw [← hx]; exact e1
    have r10 : x 10 = .int .i64 (t.size - a : Nat) := by rw [← hx]; exact hR 10 (by decide)
    have r11 : x 11 = .int .i64 0 := by rw [← hx]; exact hR 11 (by decide)
    clear e1 hx hR hr htm hdf
    subst hm
    rw [show List.range 12 = [0, 1, 2, 3, 4, 5, 6, 7, 8, 9, 10, 11] from rfl]
    simp only [List.take_succ_cons, List.take_zero, List.drop_succ_cons, List.drop_zero, List.cons_append, List.nil_append, List.map_cons, List.map_nil, r9, r10, r11]
    clear r9 r10 r11
    have hcnt : t.size - a = (mbL n).length + rest.length := by omega
    have hbW : Below w.heap.size w W := hS
    have hbz := hbW.size
    clear hcv HC0 hE c0 c1 c2 hS hxs
    generalize hkk : t.size - a = cnt at *
    clear hkk
    have HCN := Lib.hid (show (mbL n).length ≤ cnt by omega)
    clear hcnt
    go_wp2_with fail
    go_loopw [4, 18] (fun vn vi wr => ∃ k : Nat, k < (mbL n).length ∧ vi = .int .i64 k ∧ vn = .int .u64 (vOf ((mbL n).take k) : Nat) ∧ wr = W) (fun _ vi _ => (mbL n).length - (intOf vi).toNat)
    case atStart => exact ⟨0, by omega, rfl, by simp [vOf], rfl⟩
    case round =>
      obtain ⟨k, hk, rfl, rfl, rfl⟩ := hrel
      obtain ⟨c, hc⟩ := some_at hk
      have y0 := hB.cell k (by rw [List.length_append]; omega)
      have hcD : (mbL n ++ rest).getD k 0 = c := by
        rw [List.getD_eq_getElem?_getD, List.getElem?_append_left hk, hc]; rfl
      rw [hcD] at y0
      have hk3 : k < cnt := by have := HCN.out; omega
      have hk2 : (k : Int) < (cnt : Int) := by omega
      have hcl := c.toNat_lt
      have hv1 : vOf ((mbL n).take (k + 1)) = vOf ((mbL n).take k) * 128 + c.toNat % 128 := by rw [take_at2 hc, vOf_snoc]
      have hv2 := vOf_take (mbL n) (k + 1)
      rw [mbL_val hn] at hv2
      have hq1 := and_low8 c
      have hq2 := or_seven (vOf ((mbL n).take k)) c.toNat (by omega)
      have hxt : k = 0 → c.toNat ≠ 128 := fun e => mbL_top hn c (by subst e; exact hc)
      generalize vOf ((mbL n).take k) = v at *
      obtain ⟨v2, hv2e⟩ : ∃ v2, vOf ((mbL n).take (k + 1)) = v2 := ⟨_, rfl⟩
      rw [hv2e] at hv1 hv2
      have HTV := Lib.hid hv2e
      clear hv2e
      have hcn := c.toNat_lt
      obtain ⟨cn, hcne⟩ : ∃ cn, c.toNat = cn := ⟨_, rfl⟩
      rw [hcne] at y0 hcl hv1 hq1 hq2 hxt
      have hq3 : bits .or .u64 ((v : Int) * 128) ((cn : Int) % 128) = (v2 : Int) := by
        rw [hv1, ← hq2]; congr 1
      have hv3 : ¬ (4294967295 : Int) < (v2 : Int) := by omega
      have hq1' : bits .and .u8 (cn : Int) 127 = (cn : Int) % 128 := by rw [hq1]; omega
      have HV1 := Lib.hid hv1
      have hvb : v ≤ 33554431 := by omega
      clear hv1 hq2 hq1
      by_cases hlast : k + 1 = (mbL n).length
      · have hcx : cn < 128 := by have := mbL_lo c k hlast hc; omega
        have hcx2 : (cn : Int) < 128 := by omega
        rcases Nat.eq_zero_or_pos k with hk0 | hk0
        · have hxt2 : ((cn : Int) == 128) = false := by have := hxt hk0; simp; omega
          subst hk0
          clear hxt
          go_wp2_with fail
          go_ret2
          exact ⟨by rw [← hlast]; rfl, hbW⟩
        · have hk00 : ((k : Int) == 0) = false := by simp; omega
          clear hxt
          go_wp2_with fail
          go_ret2
          exact ⟨by rw [← hlast]; rfl, hbW⟩
      · have hcx : 128 ≤ cn := by have := mbL_hi k c (by omega) hc; omega
        have hcx2 : ¬ (cn : Int) < 128 := by omega
        rcases Nat.eq_zero_or_pos k with hk0 | hk0
        · have hxt2 : ((cn : Int) == 128) = false := by have := hxt hk0; simp; omega
          clear hxt
          have HK0 := Lib.hid hk0
          have hk00 : ((k : Int) == 0) = true := by simp; omega
          clear hk0
          go_wp2_with fail
          go_roundw
          case measure => simp [intOf]; omega
          case rel => exact ⟨k + 1, by omega, by go_num, by rw [HTV.out], by first | rfl | trivial⟩
        · have hk00 : ((k : Int) == 0) = false := by simp; omega
          clear hxt
          go_wp2_with fail
          go_roundw
          case measure => simp [intOf]; omega
          case rel => exact ⟨k + 1, by omega, by go_num, by rw [HTV.out], by first | rfl | trivial⟩
end Go.Proofs.YtdebfnlnpfienaaGreatDoor

/- A reader of a record: numbers, bytes, texts. -/
namespace Go.Proofs.YtdebfnlnpfienaaGreatDoor
open Go.RowKit Lift
set_option linter.unusedSimpArgs false
set_option linter.unusedVariables false

theorem ext_is {t : ByteArray} {a : Nat} {d rest : List UInt8} (h : (bl t).drop a = d ++ rest) : (t.extract a (a + d.length)).data.toList = d := by
  have e : (t.extract a (a + d.length)).data.toList = ((bl t).drop a).take d.length := by
    simp [bl, ByteArray.data_extract]
  rw [e, h, List.take_left]
theorem ext_fit {t : ByteArray} {a : Nat} {d rest : List UInt8} (h : (bl t).drop a = d ++ rest) (hd : d ≠ []) : a + d.length ≤ t.size := by
  have h1 := congrArg List.length h
  have h2 : (bl t).length = t.size := Array.length_toList
  have h3 : 0 < d.length := List.length_pos_iff.2 hd
  rw [List.length_drop, List.length_append, h2] at h1
  omega
theorem drop_next {t : ByteArray} {a : Nat} {d rest : List UInt8} (h : (bl t).drop a = d ++ rest) : (bl t).drop (a + d.length) = rest := by
  rw [← List.drop_drop, h, List.drop_left]
theorem or_seven32 (v c : Nat) (h : v * 128 + c % 128 ≤ 4294967295) : bits .or .u32 ((v : Int) * 128) ((c : Int) % 128) = ((v * 128 + c % 128 : Nat) : Int) := by
  have h1 : (BitVec.ofInt 32 ((v : Int) * 128)).toNat = v * 128 := by
    rw [show (v : Int) * 128 = ((v * 128 : Nat) : Int) by omega, BitVec.ofInt_natCast, BitVec.toNat_ofNat]; exact Nat.mod_eq_of_lt (by omega)
  have h2 : (BitVec.ofInt 32 ((c : Int) % 128)).toNat = c % 128 := by
    rw [show (c : Int) % 128 = ((c % 128 : Nat) : Int) by omega, BitVec.ofInt_natCast, BitVec.toNat_ofNat]; exact Nat.mod_eq_of_lt (by omega)
  show IntKind.u32.wrap ((BitVec.ofInt 32 ((v : Int) * 128) ||| BitVec.ofInt 32 ((c : Int) % 128)).toNat : Int) = _
  rw [BitVec.toNat_or, h1, h2]
  have := Nat.shiftLeft_add_eq_or_of_lt (show c % 128 < 2 ^ 7 by omega) v
  rw [Nat.shiftLeft_eq, show (2 ^ 7 : Nat) = 128 from rfl] at this
  rw [← this, IntKind.wrap_u32]; omega
theorem RPost.back {rb : Nat} {t : ByteArray} {a : Nat} {v : Value} {w w1 w2 : World} {e : Ending} (h : RPost rb t a v w1 e w2) (hb : Below w.heap.size w w1) : RPost rb t a v w e w2 :=
  ⟨h.1, h.2.1, (Kept.of_below hb (fun _ => False)).trans h.2.2 (fun _ _ h => h.elim) (fun _ _ h => h)⟩
set_option maxHeartbeats 4000000 in
set_option maxRecDepth 100000 in
theorem number_any {w : World} {rb : Nat} {t : ByteArray} {a : Nat} (h : RAt w rb t a) (ht : t.size ≤ 100000000) (n : Nat) (hn : n < 4294967296) (rest : List UInt8) (hs : (bl t).drop a = mbL n ++ rest) : Calls Tryz.prog 71 #[.pointer (some ⟨rb, 0, none⟩)] w (RPost rb t (a + (mbL n).length) (.int .u32 n) w) := by
  have hml := mbL_len n
  have hne : mbL n ≠ [] := fun e => by rw [e] at hml; simp at hml
  have hfit := ext_fit hs hne
  have HT := Lib.hid (take_sevens h ht (mbL n).length hfit (sevens_any h ht n hn rest hs))
  have hE := ext_is hs
  have hxs : (t.extract a (a + (mbL n).length)).size = (mbL n).length := by
    have h1 := congrArg List.length hE
    rw [Array.length_toList] at h1
    exact h1
  clear h hs
  go_enter Tryz.func71, Tryz.ntmps71
  go_wp2_with fail
  refine HT.out.mono ?_
  rintro e w1 ⟨rfl, hR, hK⟩
  have hcv := Lib.run_convert_string_bytes (P := Tryz.prog) w1 9 83 5 (t.extract a (a + (mbL n).length)) (u := .string) Tryz.underlying9 Tryz.underlying83 Tryz.underlying5
  have hbw := Lib.bytesWorld_below w1 5 (t.extract a (a + (mbL n).length))
  have hB := bytes_new w1 5 (t.extract a (a + (mbL n).length))
  obtain ⟨W, hW⟩ : ∃ W, Lib.bytesWorld w1 5 (t.extract a (a + (mbL n).length)) = W := ⟨_, rfl⟩
  rw [hW] at hcv hbw hB
  rw [hE] at hB
  rw [hxs] at hcv
  generalize grownCap w1 (mbL n).length 0 5 = cp at *
  generalize t.extract a (a + (mbL n).length) = sx at *
  have HF := Lib.hid (show RAt W rb t (a + (mbL n).length) ∧ Kept (fun k => k = rb) w W from ⟨hR.below hbw, hK.step hbw⟩)
  clear hW hE hR hK hbw HT hne
  go_wp2_with fail
  go_loopw [3, 12] (fun vn vi wr => ∃ k : Nat, k ≤ (mbL n).length ∧ vi = .int .i64 k ∧ vn = .int .u32 (vOf ((mbL n).take k) : Nat) ∧ wr = W) (fun _ vi _ => (mbL n).length - (intOf vi).toNat)
  case atStart => exact ⟨0, by omega, rfl, by simp [vOf], rfl⟩
  case round =>
    obtain ⟨k, hk, rfl, rfl, rfl⟩ := hrel
    by_cases hkl : k < (mbL n).length
    · obtain ⟨c, hc⟩ := some_at hkl
      have y0 := hB.cell k hkl
      have hcD : (mbL n).getD k 0 = c := by rw [List.getD_eq_getElem?_getD, hc]; rfl
      rw [hcD] at y0
      have hk2 : (k : Int) < ((mbL n).length : Int) := by omega
      have hv1 : vOf ((mbL n).take (k + 1)) = vOf ((mbL n).take k) * 128 + c.toNat % 128 := by rw [take_at2 hc, vOf_snoc]
      have hv2 := vOf_take (mbL n) (k + 1)
      rw [mbL_val hn] at hv2
      have hq1 := and_low8 c
      have hq2 := or_seven32 (vOf ((mbL n).take k)) c.toNat (by omega)
      generalize vOf ((mbL n).take k) = v at *
      obtain ⟨v2, hv2e⟩ : ∃ v2, vOf ((mbL n).take (k + 1)) = v2 := ⟨_, rfl⟩
      rw [hv2e] at hv1 hv2
      have HTV := Lib.hid hv2e
      clear hv2e
      have hcl := c.toNat_lt
      obtain ⟨cn, hcne⟩ : ∃ cn, c.toNat = cn := ⟨_, rfl⟩
      rw [hcne] at y0 hcl hv1 hq1 hq2
      have hq3 : bits .or .u32 ((v : Int) * 128) ((cn : Int) % 128) = (v2 : Int) := by rw [hq2, hv1]
      have hq1' : bits .and .u8 (cn : Int) 127 = (cn : Int) % 128 := by rw [hq1]; omega
      have hvb : v ≤ 33554431 := by omega
      clear hv1 hq2 hq1
      go_wp2_with fail
      go_roundw
      case measure => simp [intOf]; omega
      case rel => exact ⟨k + 1, by omega, by go_num, by rw [HTV.out], by first | rfl | trivial⟩
    · obtain rfl : k = (mbL n).length := by omega
      rw [List.take_length, mbL_val hn]
      go_wp2_with fail
      go_ret
      exact ⟨rfl, HF.out.1, HF.out.2⟩
set_option maxHeartbeats 2000000 in
set_option maxRecDepth 100000 in
theorem bytes1_any {w : World} {rb b1 b2 : Nat} {t : ByteArray} {a : Nat} (h : RAt w rb t a) (ht : t.size ≤ 100000000) (k : Nat) (hk : a + k ≤ t.size) (e1 : w.cell? ⟨b1, 0, none⟩ = some (.pointer (some ⟨rb, 0, none⟩))) (e2 : w.cell? ⟨b2, 0, none⟩ = some (.int .i64 k)) :
    Calls Tryz.prog 98 #[.pointer (some ⟨b1, 0, none⟩), .pointer (some ⟨b2, 0, none⟩)] w (BelowPost (.tuple #[.int .i64 k, .int .i64 0]) w) := by
  have HM := Lib.hid (many_any h ht k hk)
  clear h
  go_enter Tryz.func98, Tryz.ntmps98
  go_wp2_with fail
  refine HM.out.mono ?_
  rintro e w1 ⟨rfl, hb⟩
  go_wp2_with fail
  go_ret2
  exact ⟨rfl, hb⟩
set_option maxHeartbeats 2000000 in
set_option maxRecDepth 100000 in
theorem rbytes_any {w : World} {rb : Nat} {t : ByteArray} {a : Nat} (h : RAt w rb t a) (ht : t.size ≤ 100000000) (s : ByteArray) (rest : List UInt8) (hs : (bl t).drop a = bl s ++ rest) (ha : a ≤ t.size) : Calls Tryz.prog 70 #[.pointer (some ⟨rb, 0, none⟩), .int .i64 s.size] w (RPost rb t (a + s.size) (.string s) w) := by
  have hsl : (bl s).length = s.size := Array.length_toList
  have hfit : a + s.size ≤ t.size := by
    by_cases h0 : bl s = []
    · rw [h0] at hsl; simp at hsl; omega
    · have := ext_fit hs h0; omega
  have hE : t.extract a (a + s.size) = s := by
    have := ext_is hs
    rw [hsl] at this
    exact bl_inj this
  have hb0 : Below w.heap.size w ((w.alloc (.cells #[.pointer (some ⟨rb, 0, none⟩)] 118)).alloc (.cells #[.int .i64 s.size] 3)) := ((Below.refl _ _).alloc (Nat.le_refl _) _).alloc (by simp) _
  have h1 := h.below hb0
  have HT := Lib.hid ((take_bytes h1 ht s.size hfit w.heap.size (w.heap.size + 1) (bytes1_any h1 ht s.size hfit (by simp [go_sem]) (by simp [go_sem]))).mono (fun e w' hp => hp.back hb0))
  rw [hE] at HT
  clear h h1 hb0 hE
  go_enter Tryz.func70, Tryz.ntmps70
  go_wp2_with fail
  refine HT.out.mono ?_
  rintro e w1 ⟨rfl, hR, hK⟩
  go_wp2_with fail
  go_ret
  exact ⟨rfl, hR, hK⟩
end Go.Proofs.YtdebfnlnpfienaaGreatDoor

/- A record read: its writes. -/
namespace Go.Proofs.YtdebfnlnpfienaaGreatDoor
open Go.RowKit Lift
set_option linter.unusedSimpArgs false
set_option linter.unusedVariables false

set_option maxHeartbeats 2000000 in
set_option maxRecDepth 100000 in
theorem rtext_any {w : World} {rb bx : Nat} {t : ByteArray} {a : Nat} (h : RAt w rb t a) (hx : w.cell? ⟨bx, 0, none⟩ = some (.pointer (some ⟨rb, 0, none⟩))) (hne : bx ≠ rb) (ht : t.size ≤ 100000000) (s : ByteArray) (rest : List UInt8) (hs : (bl t).drop a = txL s ++ rest) (hsz : s.size < 4294967296) :
    Calls Tryz.prog 69 #[.pointer (some ⟨bx, 0, none⟩)] w (RPost rb t (a + (txL s).length) (.string s) w) := by
  have hbx : bx < w.heap.size := by
    rcases Nat.lt_or_ge bx w.heap.size with h' | h'
    · exact h'
    · simp [World.cell?, Array.getElem?_eq_none h'] at hx
  have hs1 : (bl t).drop a = mbL s.size ++ (bl s ++ rest) := by rw [hs]; simp [txL]
  have hd : (bl t).drop (a + (mbL s.size).length) = bl s ++ rest := drop_next hs1
  have hml := mbL_len s.size
  have hfit := ext_fit hs1 (fun e => by rw [e] at hml; simp at hml)
  have hbd : Below w.heap.size w w.drew := (Below.refl _ _).drew
  have HN := Lib.hid (number_any (h.below hbd) ht s.size hsz _ hs1)
  have HB := Lib.hid (fun w1 (h1 : RAt w1 rb t (a + (mbL s.size).length)) => rbytes_any h1 ht s rest hd hfit)
  have hl2 : a + (txL s).length = a + (mbL s.size).length + s.size := by
    have : (bl s).length = s.size := Array.length_toList
    simp only [txL, List.length_append]; omega
  rw [hl2]
  have HC := Lib.hid (show w.drew.cell? ⟨bx, 0, none⟩ = some (.pointer (some ⟨rb, 0, none⟩)) from hx)
  have hwr : IntKind.i64.wrap (s.size : Int) = (s.size : Int) := IntWalk.i64_in _ (by omega)
  clear h hs hs1 hd hl2
  go_enter Tryz.func69, Tryz.ntmps69
  go_wp2_with fail
  go_region_held3 (fun wx => wx.cell? ⟨bx, 0, none⟩ = some (.pointer (some ⟨rb, 0, none⟩)))
    (first | exact HC.out | assumption)
    (first
      | (go_at_call 71; refine HN.out.mono ?_; rintro e w1 ⟨rfl, hR, hK⟩; have hk1 := (hK.cell (p := ⟨bx, 0, none⟩) hbx hne).trans HC.out)
      | (go_at_call 70; refine (HB.out _ hR).mono ?_; rintro e w2 ⟨rfl, hR2, hK2⟩; have hk2 := (hK2.cell (p := ⟨bx, 0, none⟩) (Nat.lt_of_lt_of_le hbx hK.size) hne).trans hk1))
  all_goals
    go_wp2_with fail
    go_ret
    exact ⟨rfl, hR2, (Kept.of_below hbd (fun _ => False)).trans (hK.trans hK2 (Z := fun k => k = rb) (fun _ _ h => h) (fun _ _ h => h)) (fun _ _ h => h.elim) (fun _ _ h => h)⟩
set_option maxHeartbeats 2000000 in
set_option maxRecDepth 100000 in
theorem rgood_any {w : World} {rb bx : Nat} {t : ByteArray} {a : Nat} (h : RAt w rb t a) (hx : w.cell? ⟨bx, 0, none⟩ = some (.pointer (some ⟨rb, 0, none⟩))) :
    Calls Tryz.prog 72 #[.pointer (some ⟨bx, 0, none⟩)] w (BelowPost (.bool true) w) := by
  have HE := Lib.hid (err_any h)
  clear h
  go_enter Tryz.func72, Tryz.ntmps72
  go_wp2_with fail
  refine HE.out.mono ?_
  rintro e w1 ⟨rfl, hb⟩
  go_wp2_with fail
  go_ret
  exact ⟨rfl, hb⟩
set_option maxHeartbeats 2000000 in
set_option maxRecDepth 100000 in
theorem rnew_any (t : ByteArray) (w : World) : Calls Tryz.prog 68 #[.string t] w (fun e w' => e = .returned (.pointer (some ⟨w.heap.size, 0, none⟩)) ∧ w' = w.alloc (.cells #[.string t, .int .i64 0, .int .i64 0] 144)) := by
  go_enter Tryz.func68, Tryz.ntmps68
  go_wp2_with fail
  go_ret
  exact ⟨rfl, rfl⟩
end Go.Proofs.YtdebfnlnpfienaaGreatDoor

/- A record of writes is read as these writes. -/
namespace Go.Proofs.YtdebfnlnpfienaaGreatDoor
open Go.RowKit Lift
set_option linter.unusedSimpArgs false
set_option linter.unusedVariables false

theorem right_of {l : List KW} (h : l.any (fun c => !rightW c) = false) : ∀ c ∈ l, rightW c = true ∧ 1 ≤ c.1.size ∧ c.1.size ≤ 40 ∧ c.2.1.size ≤ 9000 ∧ (c.2.2 = true → c.2.1 = ⟨#[]⟩) := fun c hc => by
  have h1 := (List.any_eq_false.1 h) c hc
  have h2 : rightW c = true := by cases hr : rightW c <;> simp_all
  have h3 := right_sz h c hc
  have h4 := right_keys h c hc
  refine ⟨h2, h4, h3.1, h3.2, fun hg => ?_⟩
  simp only [rightW, Bool.and_eq_true, hg, Bool.true_and, Bool.not_eq_true', Bool.not_eq_false', decide_eq_true_eq] at h2
  have h5 : c.2.1.size = 0 := by simpa using h2.2
  apply ByteArray.ext
  exact Array.eq_empty_of_size_eq_zero h5
theorem rec_drop {l : List KW} {k : Nat} (hk : k ≤ l.length) : (bl (recB l)).drop (recT l k).length = ((l.drop k).map wrL).flatten := by
  have e : bl (recB l) = recT l k ++ ((l.drop k).map wrL).flatten := by
    show (recL l).toArray.toList = _
    rw [recT, recL, List.append_assoc, ← List.flatten_append, ← List.map_append, List.take_append_drop]
  rw [e, List.drop_left]
theorem rec_drop_succ {l : List KW} {k : Nat} {c : KW} (hc : l[k]? = some c) : ((l.drop k).map wrL).flatten = wrL c ++ ((l.drop (k + 1)).map wrL).flatten := by
  obtain ⟨h1, rfl⟩ := List.getElem?_eq_some_iff.1 hc
  rw [List.drop_eq_getElem_cons h1, List.map_cons, List.flatten_cons]
def WPost (l : List KW) (w : World) (e : Ending) (w' : World) : Prop := ∃ v, e = .returned (.tuple #[v, .bool true]) ∧ Lift.Own rKw (fun _ => True) w' w.heap.size 50 v l ∧ Below w.heap.size w w'
set_option maxHeartbeats 8000000 in
set_option maxRecDepth 100000 in
theorem writes_rec (l : List KW) (hr : l.any (fun c => !rightW c) = false) (hlen : l.length ≤ 1000000) (hsz : (recB l).size ≤ 100000000) (w : World) : Calls Tryz.prog 41 #[.string (recB l)] w (WPost l w) := by
  have HRt := Lib.hid (right_of hr)
  obtain ⟨t, ht⟩ : ∃ t, recB l = t := ⟨_, rfl⟩
  rw [ht] at hsz ⊢
  obtain ⟨i0, hi, hz0, hz1, hz2⟩ := info_parts kw_info
  have HI0 := Lib.hid hi; have HZ0 := Lib.hid hz0; have HZ1 := Lib.hid hz1; have HZ2 := Lib.hid hz2
  have HN := Lib.hid (rnew_any t w)
  obtain ⟨W1, hW1⟩ : ∃ W1, (w.alloc (.cells #[.string t, .int .i64 0, .int .i64 0] 144)).alloc (.cells #[.pointer (some ⟨w.heap.size, 0, none⟩)] 118) = W1 := ⟨_, rfl⟩
  have hb1 : Below w.heap.size w W1 := by subst hW1; exact ((Below.refl _ _).alloc (Nat.le_refl _) _).alloc (by simp) _
  have hz1' : W1.heap.size = w.heap.size + 2 := by subst hW1; simp
  have hx1 : W1.cell? ⟨w.heap.size + 1, 0, none⟩ = some (.pointer (some ⟨w.heap.size, 0, none⟩)) := by subst hW1; simp [go_sem]
  have hR1 : RAt W1 w.heap.size t 0 := by
    have h0 : RAt (w.alloc (.cells #[.string t, .int .i64 0, .int .i64 0] 144)) w.heap.size t 0 := heap_alloc_new w _
    subst hW1
    exact h0.below ((Below.refl _ _).alloc (Nat.le_refl _) _)
  have hd0 : (bl t).drop 0 = mbL l.length ++ (l.map wrL).flatten := by rw [← ht]; show (recL l).toArray.toList = _; rfl
  have HNu := Lib.hid (number_any hR1 hsz l.length (by omega) _ hd0)
  have HDr := Lib.hid (fun k (hk : k ≤ l.length) => show (bl t).drop (recT l k).length = ((l.drop k).map wrL).flatten by rw [← ht]; exact rec_drop hk)
  have HAL := Lib.hid (show (recT l l.length).length = t.size by rw [recT_all, ← ht]; exact (recB_size l).symm)
  have HW1 := Lib.hid hW1
  clear hi hz0 hz1 hz2 hr ht hd0 hR1 hW1
  go_enter Tryz.func41, Tryz.ntmps41
  go_wp2_with fail
  refine HN.out.mono ?_
  rintro e w2 ⟨rfl, rfl⟩
  go_wp2_with fail
  rw [HW1.out]
  refine HNu.out.mono ?_
  rintro e w3 ⟨rfl, hR3, hK3⟩
  rw [Nat.zero_add, ← recT_zero] at hR3
  have HR3 := Lib.hid hR3
  have HB3 : Hid (Below w.heap.size w w3) := Lib.hid (hb1.trans (hK3.below (by omega) (fun k hk => by omega)))
  have HX3 := Lib.hid ((hK3.cell (p := ⟨w.heap.size + 1, 0, none⟩) (by simp; omega) (by simp)).trans hx1)
  have hz3 := hK3.size
  clear hR3 hK3 HNu HN HW1 hx1 hb1
  go_wp2_with fail
  go_loopw [7, 8] (fun vl vn wr => ∃ k : Nat, k ≤ l.length ∧ vn = .int .u32 ((l.length - k : Nat) : Int) ∧ Hid (Lift.Own rKw (fun _ => True) wr (w.heap.size + 2) 50 vl (l.take k)) ∧ Hid (RAt wr w.heap.size t (recT l k).length) ∧ Hid (wr.cell? ⟨w.heap.size + 1, 0, none⟩ = some (.pointer (some ⟨w.heap.size, 0, none⟩))) ∧ Hid (Below w.heap.size w wr) ∧ w.heap.size + 2 ≤ wr.heap.size) (fun _ vn _ => (intOf vn).toNat)
  case atStart => exact ⟨0, Nat.zero_le _, by simp, Lib.hid (by simpa using Lift.Own.nil _ _ _ _ _), HR3, HX3, HB3, by omega⟩
  case round =>
    obtain ⟨k, hk, rfl, HO, HR, HX, HB, hzw⟩ := hrel
    clear HR3 HX3 HB3
    by_cases hkl : k < l.length
    · obtain ⟨c, hc⟩ := some_at hkl
      obtain ⟨q1, q2, q3, q4, q5⟩ := HRt.out c (List.mem_of_getElem? hc)
      have hdr := HDr.out k hk
      rw [rec_drop_succ hc] at hdr
      have HTs := Lib.hid (recT_succ hc)
      have HTk := Lib.hid (take_at2 hc)
      obtain ⟨m, hm⟩ : ∃ m, l.length - k = m + 1 := ⟨l.length - k - 1, by omega⟩
      rw [hm]
      have hm2 : l.length - (k + 1) = m := by omega
      have hmb : m < 1000000 := by omega
      obtain ⟨ck, cv, cg⟩ := c
      simp only at q2 q3 q4 q5
      obtain ⟨ao, cap, rfl⟩ := HO.out.form
      have hlk : (l.take k).length = k := by rw [List.length_take]; omega
      have HW := Lib.hid (show Lift.Own rKw (fun _ => True) wr (w.heap.size + 2) 50 (.slice ao k cap) (l.take k) by have := HO.out; rwa [hlk] at this)
      obtain ⟨al, hal⟩ : ∃ al, (recT l k).length = al := ⟨_, rfl⟩
      rw [hal] at HR hdr
      have hx := HX.out
      have hkb : (l.take k).length ≤ 1000000 := by have := List.length_take_le k l; omega
      cases cg with
      | true =>
        obtain rfl := q5 rfl
        have hs1 : (bl t).drop al = mbL 1 ++ (txL ck ++ ((l.drop (k + 1)).map wrL).flatten) := by rw [hdr]; simp [wrL]
        have HN1 := Lib.hid (number_any HR.out hsz 1 (by omega) _ hs1)
        have hs2 := drop_next hs1
        go_wp2_with fail
        refine HN1.out.mono ?_
        rintro e wa ⟨rfl, hRa, hKa⟩
        have hxa := (hKa.cell (p := ⟨w.heap.size + 1, 0, none⟩) (by simp; omega) (by simp)).trans hx
        have HT1 := Lib.hid (rtext_any hRa hxa (by omega) hsz ck _ hs2 (by omega))
        have hza := hKa.size
        clear HN1 hRa
        go_wp2_with fail
        refine HT1.out.mono ?_
        rintro e wb ⟨rfl, hRb, hKb⟩
        have hzb := hKb.size
        have hxb := (hKb.cell (p := ⟨w.heap.size + 1, 0, none⟩) (by simp; omega) (by simp)).trans hxa
        obtain ⟨Wb, hWb⟩ : ∃ x, wb.alloc (.cells #[.string ck, .string ⟨#[]⟩, .bool true] 50) = x := ⟨_, rfl⟩
        have hxc : Wb.cell? ⟨w.heap.size + 1, 0, none⟩ = some (.pointer (some ⟨w.heap.size, 0, none⟩)) := by rw [← hWb]; exact (((Below.refl _ wb).alloc (Nat.le_refl _) _).cell (p := ⟨w.heap.size + 1, 0, none⟩) (by simp; omega)).trans hxb
        have hRc : RAt Wb w.heap.size t (al + (mbL 1).length + (txL ck).length) := by rw [← hWb]; exact hRb.below ((Below.refl _ wb).alloc (Nat.le_refl _) _)
        have HG := Lib.hid (rgood_any hRc hxc)
        have bx0 : Wb.cell? ⟨wb.heap.size, 0, none⟩ = some (.string ck) := by rw [← hWb]; simp [go_sem]
        have bx1 : Wb.cell? ⟨wb.heap.size, 1, none⟩ = some (.string ⟨#[]⟩) := by rw [← hWb]; simp [go_sem]
        have bx2 : Wb.cell? ⟨wb.heap.size, 2, none⟩ = some (.bool true) := by rw [← hWb]; simp [go_sem]
        have hBb : Below wb.heap.size wb Wb := by rw [← hWb]; exact (Below.refl _ wb).alloc (Nat.le_refl _) _
        have hzc : Wb.heap.size = wb.heap.size + 1 := by rw [← hWb]; simp
        go_wp2_with fail
        clear hWb
        refine HG.out.mono ?_
        rintro e wc ⟨rfl, hbc⟩
        have hzd := hbc.size
        have cx0 := (hbc.cell (p := ⟨wb.heap.size, 0, none⟩) (by simp; omega)).trans bx0
        have cx1 := (hbc.cell (p := ⟨wb.heap.size, 1, none⟩) (by simp; omega)).trans bx1
        have cx2 := (hbc.cell (p := ⟨wb.heap.size, 2, none⟩) (by simp; omega)).trans bx2
        have HRi := Lib.hid (right_any (ck, ⟨#[]⟩, true) (by simp only; unfold maxTx; omega) (by simp only; unfold maxTx; omega) wc)
        rw [q1] at HRi
        go_wp2_with fail
        refine HRi.out.mono ?_
        rintro e wd ⟨rfl, hbd⟩
        have hze := hbd.size
        have dx0 := (hbd.cell (p := ⟨wb.heap.size, 0, none⟩) (by simp; omega)).trans cx0
        have dx1 := (hbd.cell (p := ⟨wb.heap.size, 1, none⟩) (by simp; omega)).trans cx1
        have dx2 := (hbd.cell (p := ⟨wb.heap.size, 2, none⟩) (by simp; omega)).trans cx2
        have hRd := (hRc.below hbc).below hbd
        have hcd := chain hbc hbd
        have HOd := Lib.hid (((((HW.out.flat (S' := fun _ => True) kw_flat hKa (fun q hq e => by have := (HW.out.lt q hq).1; omega)).flat (S' := fun _ => True) kw_flat hKb (fun q hq e => by have := (HW.out.lt q hq).1; omega)).below hBb).below hbc).below hbd)
        have HBd : Hid (Below w.heap.size w wd) := Lib.hid (HB.out.trans ((((hKa.below (B := w.heap.size) (by omega) (fun q hq => by omega)).trans (hKb.below (B := w.heap.size) (by omega) (fun q hq => by omega))).trans (hBb.mono (by omega))).trans (hcd.mono (by omega))))
        go_wp2_with (first | (at_builtin; refine wpList_push rKw rfl _ _ 32 rfl (w.heap.size + 2) 50 i0 _ 40 Tryz.underlying32 HI0.out HZ0.out HZ1.out HZ2.out rfl (by decide) (fun _ => True) _ (l.take k) rfl HOd.out [.string ck, .string ⟨#[]⟩, .bool true] (ck, ⟨#[]⟩, true) _ rfl (by simp) (kw_rel _ _ (ck, ⟨#[]⟩, true) (by simp only; unfold maxTx; omega) (by simp only; unfold maxTx; omega)) (by simp [Value.oneCell']) (by unfold maxLen; omega) (by omega) (by first | omega | (simp; omega)) ?_; intro v9 w9 hO9 hK9 hw9))
        have hrl : (recT l (k + 1)).length = al + (mbL 1).length + (txL ck).length := by rw [HTs.out, List.length_append, hal]; simp [wrL]; omega
        have hn9 : ∀ q, q < w.heap.size + 2 → ¬ some q = (Value.slice ao k cap).ownBlock := fun q hq e => by have := (HOd.out.lt q e.symm).1; omega
        go_roundw
        case measure => simp [intOf]
        case rel => exact ⟨k + 1, by omega, by rw [hm2], Lib.hid (by rw [HTk.out]; exact hO9), Lib.hid (by rw [hrl]; exact hRd.kept hK9 (hn9 _ (by omega))), Lib.hid ((hK9.cell (p := ⟨w.heap.size + 1, 0, none⟩) (by simp; omega) (hn9 _ (by simp))).trans ((hcd.cell (p := ⟨w.heap.size + 1, 0, none⟩) (by simp; omega)).trans hxc)), Lib.hid (HBd.out.trans (hK9.below (B := w.heap.size) (by omega) (fun q hq => by rcases Nat.lt_or_ge q w.heap.size with h' | h'; exact absurd hq (hn9 q (by omega)); exact h'))), by have := hK9.size; omega⟩
      | false =>
        have hs1 : (bl t).drop al = mbL 0 ++ (txL ck ++ (txL cv ++ ((l.drop (k + 1)).map wrL).flatten)) := by rw [hdr]; simp [wrL]
        have HN1 := Lib.hid (number_any HR.out hsz 0 (by omega) _ hs1)
        have hs2 := drop_next hs1
        go_wp2_with fail
        refine HN1.out.mono ?_
        rintro e wa ⟨rfl, hRa, hKa⟩
        have hxa := (hKa.cell (p := ⟨w.heap.size + 1, 0, none⟩) (by simp; omega) (by simp)).trans hx
        have HT1 := Lib.hid (rtext_any hRa hxa (by omega) hsz ck _ hs2 (by omega))
        have hza := hKa.size
        clear HN1 hRa
        go_wp2_with fail
        refine HT1.out.mono ?_
        rintro e wb ⟨rfl, hRb, hKb⟩
        have hzb := hKb.size
        have hxb := (hKb.cell (p := ⟨w.heap.size + 1, 0, none⟩) (by simp; omega) (by simp)).trans hxa
        have hs3 := drop_next hs2
        obtain ⟨We, hWe⟩ : ∃ x, wb.alloc (.cells #[.string ck, .string ⟨#[]⟩, .bool false] 50) = x := ⟨_, rfl⟩
        have hBe : Below wb.heap.size wb We := by rw [← hWe]; exact (Below.refl _ wb).alloc (Nat.le_refl _) _
        have hxe := (hBe.cell (p := ⟨w.heap.size + 1, 0, none⟩) (by simp; omega)).trans hxb
        have hRe := hRb.below hBe
        have HBB := Lib.hid (show We.heap[wb.heap.size]? = some (.cells #[.string ck, .string ⟨#[]⟩, .bool false] 50 (0, 0)) by rw [← hWe]; exact heap_alloc_new wb _)
        have hzf : We.heap.size = wb.heap.size + 1 := by rw [← hWe]; simp
        have HT2 := Lib.hid (rtext_any hRe hxe (by omega) hsz cv _ hs3 (by omega))
        have HWe := Lib.hid hWe
        clear HT1 hRb hWe
        go_wp2_with fail
        rw [HWe.out]
        refine HT2.out.mono ?_
        rintro e wf ⟨rfl, hRf, hKf⟩
        have hzg := hKf.size
        have hxf := (hKf.cell (p := ⟨w.heap.size + 1, 0, none⟩) (by simp; omega) (by simp)).trans hxe
        have hbf := (hKf.block wb.heap.size (by omega) (by omega)).trans HBB.out
        have hfr : wf.frozen? ⟨wb.heap.size, 1, none⟩ = false := Lib.frozen_of_heap hbf 1
        have hio : wf.cell? ⟨wb.heap.size, 1, none⟩ = some (.string ⟨#[]⟩) := by rw [Lib.cell_of_heap hbf]; rfl
        obtain ⟨Wb, hWb⟩ : ∃ x, wf.setCell ⟨wb.heap.size, 1, none⟩ (.string cv) = x := ⟨_, rfl⟩
        have hKs : Kept (fun k => k = wb.heap.size) wf Wb := by rw [← hWb]; exact Kept.setCell (X := fun k => k = wb.heap.size) wf (p := ⟨wb.heap.size, 1, none⟩) rfl _
        have hxc : Wb.cell? ⟨w.heap.size + 1, 0, none⟩ = some (.pointer (some ⟨w.heap.size, 0, none⟩)) := (hKs.cell (p := ⟨w.heap.size + 1, 0, none⟩) (by simp; omega) (by simp; omega)).trans hxf
        have hRc := hRf.kept hKs (by omega)
        have hzs := hKs.size
        have hKW : Kept (fun k => k = w.heap.size) wr Wb := ((((hKa.trans hKb (Z := fun k => k = w.heap.size) (fun _ _ h => h) (fun _ _ h => h)).step hBe).trans hKf (Z := fun k => k = w.heap.size) (fun _ _ h => h) (fun _ _ h => h)).trans hKs (Z := fun k => k = w.heap.size) (fun _ _ h => h) (fun _ _ h => by omega))
        have hbW : Wb.heap[wb.heap.size]? = some (.cells #[.string ck, .string cv, .bool false] 50 (0, 0)) := by rw [← hWb]; simp [World.setCell, Array.getElem?_modify, hbf]
        have bx0 : Wb.cell? ⟨wb.heap.size, 0, none⟩ = some (.string ck) := by rw [Lib.cell_of_heap hbW]; rfl
        have bx1 : Wb.cell? ⟨wb.heap.size, 1, none⟩ = some (.string cv) := by rw [Lib.cell_of_heap hbW]; rfl
        have bx2 : Wb.cell? ⟨wb.heap.size, 2, none⟩ = some (.bool false) := by rw [Lib.cell_of_heap hbW]; rfl
        have HG := Lib.hid (rgood_any hRc hxc)
        clear hbW hbf HBB hKs HT2
        go_wp2_with fail
        clear hWb
        refine HG.out.mono ?_
        rintro e wc ⟨rfl, hbc⟩
        have hzd := hbc.size
        have cx0 := (hbc.cell (p := ⟨wb.heap.size, 0, none⟩) (by simp; omega)).trans bx0
        have cx1 := (hbc.cell (p := ⟨wb.heap.size, 1, none⟩) (by simp; omega)).trans bx1
        have cx2 := (hbc.cell (p := ⟨wb.heap.size, 2, none⟩) (by simp; omega)).trans bx2
        have HRi := Lib.hid (right_any (ck, cv, false) (by simp only; unfold maxTx; omega) (by simp only; unfold maxTx; omega) wc)
        rw [q1] at HRi
        go_wp2_with fail
        refine HRi.out.mono ?_
        rintro e wd ⟨rfl, hbd⟩
        have hze := hbd.size
        have dx0 := (hbd.cell (p := ⟨wb.heap.size, 0, none⟩) (by simp; omega)).trans cx0
        have dx1 := (hbd.cell (p := ⟨wb.heap.size, 1, none⟩) (by simp; omega)).trans cx1
        have dx2 := (hbd.cell (p := ⟨wb.heap.size, 2, none⟩) (by simp; omega)).trans cx2
        have hRd := (hRc.below hbc).below hbd
        have hcd := chain hbc hbd
        have HOd := Lib.hid (((HW.out.flat (S' := fun _ => True) kw_flat hKW (fun q hq e => by have := (HW.out.lt q hq).1; omega)).below hbc).below hbd)
        have HBd : Hid (Below w.heap.size w wd) := Lib.hid (HB.out.trans ((hKW.below (B := w.heap.size) (by omega) (fun q hq => by omega)).trans (hcd.mono (by omega))))
        go_wp2_with (first | (at_builtin; refine wpList_push rKw rfl _ _ 32 rfl (w.heap.size + 2) 50 i0 _ 40 Tryz.underlying32 HI0.out HZ0.out HZ1.out HZ2.out rfl (by decide) (fun _ => True) _ (l.take k) rfl HOd.out [.string ck, .string cv, .bool false] (ck, cv, false) _ rfl (by simp) (kw_rel _ _ (ck, cv, false) (by simp only; unfold maxTx; omega) (by simp only; unfold maxTx; omega)) (by simp [Value.oneCell']) (by unfold maxLen; omega) (by omega) (by first | omega | (simp; omega)) ?_; intro v9 w9 hO9 hK9 hw9))
        have hrl : (recT l (k + 1)).length = al + (mbL 0).length + (txL ck).length + (txL cv).length := by rw [HTs.out, List.length_append, hal]; simp [wrL]; omega
        have hn9 : ∀ q, q < w.heap.size + 2 → ¬ some q = (Value.slice ao k cap).ownBlock := fun q hq e => by have := (HOd.out.lt q e.symm).1; omega
        go_roundw
        case measure => simp [intOf]
        case rel => exact ⟨k + 1, by omega, by rw [hm2], Lib.hid (by rw [HTk.out]; exact hO9), Lib.hid (by rw [hrl]; exact hRd.kept hK9 (hn9 _ (by omega))), Lib.hid ((hK9.cell (p := ⟨w.heap.size + 1, 0, none⟩) (by simp; omega) (hn9 _ (by simp))).trans ((hcd.cell (p := ⟨w.heap.size + 1, 0, none⟩) (by simp; omega)).trans hxc)), Lib.hid (HBd.out.trans (hK9.below (B := w.heap.size) (by omega) (fun q hq => by rcases Nat.lt_or_ge q w.heap.size with h' | h'; exact absurd hq (hn9 q (by omega)); exact h'))), by have := hK9.size; omega⟩
    · obtain rfl : k = l.length := by omega
      obtain ⟨ao, cap, rfl⟩ := HO.out.form
      have hx := HX.out
      rw [Nat.sub_self]
      have hal : (recT l l.length).length = t.size := HAL.out
      rw [hal] at HR
      have HG := Lib.hid (rgood_any HR.out hx)
      have hxs : w.heap.size + 1 < wr.heap.size := by omega
      go_wp2_with fail
      refine HG.out.mono ?_
      rintro e wc ⟨rfl, hbc⟩
      have hxc := (hbc.cell (p := ⟨w.heap.size + 1, 0, none⟩) hxs).trans hx
      have HL := Lib.hid (rleft2_any (HR.out.below hbc) hsz (Nat.le_refl _))
      rw [Nat.sub_self] at HL
      go_wp2_with fail
      refine HL.out.mono ?_
      rintro e wd ⟨rfl, hbd⟩
      go_wp2_with fail
      go_ret2
      have hcd := chain hbc hbd
      exact ⟨_, rfl, (show Lift.Own rKw (fun _ => True) wd (w.heap.size + 2) 50 (.slice ao l.length cap) l by have h1 := HO.out.below hcd; rwa [List.take_length] at h1).rebase (by omega), HB.out.trans (hcd.mono (by omega))⟩
end Go.Proofs.YtdebfnlnpfienaaGreatDoor
