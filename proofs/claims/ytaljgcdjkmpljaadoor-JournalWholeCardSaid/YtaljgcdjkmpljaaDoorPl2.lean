/- settle: what is there is made sure. -/
import Derived.Test.YtaljgcdjkmpljaaDoorPl1
import Derived.Deep.WholeRow
namespace Go.Proofs.YtaljgcdjkmpljaaDoor
open Go.RowKit Lift
set_option linter.unusedSimpArgs false
set_option linter.unusedVariables false

/-- A write's zero. -/
def wrZ : Array Value := (.int .i64 0 :: List.replicate 64 (.int .u8 0)).toArray
theorem i_wrZ : (Tryd.prog.info? 89).map (fun i => (i.zero, i.size)) = some (some (.agg wrZ), 65) := by kernel_rfl
theorem wrZ_size : wrZ.size = 65 := by simp [wrZ]
theorem wpList_alloc_wr {ops : Array Oper} {rest : List Oper} {o : Oper} {a : Act} {w : World} {Q : Exit → Act → World → Prop} (hgd : o.guard = none) (ho : o.op = .alloc 89)
    (h : wpList Tryd.prog ops Q rest (a.put o.dst (.pointer (some ⟨w.heap.size, 0, none⟩))) (w.alloc (.cells wrZ 89))) : wpList Tryd.prog ops Q (o :: rest) a w := by
  have hz := (zero_of_info i_wrZ).1
  refine wpList_plain hgd fun K hK => ?_
  unfold Oper.wp
  simp only [execOp, ho, Instr.alloc, Sem.run_bind, hz, Result.andThen_ok]
  exact hK _ _ h
theorem wpList_store_wr {ops : Array Oper} {rest : List Oper} {o : Oper} {a : Act} {w : World} {Q : Exit → Act → World → Prop} (hgd : o.guard = none) (x y : Operand) (ho : o.op = .store 89 x y)
    (hx : a.eval x = .pointer (some ⟨w.heap.size, 0, none⟩)) (d : Wr) (hy : a.eval y = .agg (wrCells d).toArray) (hd : d.2.length = 64)
    (h : wpList Tryd.prog ops Q rest (a.put o.dst undef) (w.alloc (.cells (wrCells d).toArray 89))) : wpList Tryd.prog ops Q (o :: rest) a (w.alloc (.cells wrZ 89)) := by
  refine wpList_plain hgd fun K hK => ?_
  have hs := run_storeAt_new (P := Tryd.prog) w 89 wrZ (wrCells d).toArray (by rw [wr_info d hd]; simp) (by rw [wrZ_size]; simp [wrCells, cs_len, hd]) (all_oneCell_toArray (wr_one d))
  unfold Oper.wp execOp
  simp only [ho, hx, hy, Sem.run_bind, hs, Result.andThen_ok]
  exact hK _ _ h
/-- A whole array is read in a region that reads first. -/
theorem wpStill_load_mid {P : Program} {ops : Array Oper} {rest : List Oper} {op : Oper} {a : Act} {w : World} {Q : Act → Prop} (hgd : op.guard = none) (ty : TypeId) (x : Operand) (ho : op.op = .load ty x)
    (b o : Nat) (hx : a.eval x = .pointer (some ⟨b, o, none⟩)) (cs : List Value) (d : TypeDesc) (hc : w.rangeAt b o cs)
    (hu : P.underlying ty = some d) (hd : d.isRow = true) (hi : (P.info? ty).map (·.size) = some cs.length)
    (h : wpStill P ops w Q rest (a.put op.dst (.agg cs.toArray))) : wpStill P ops w Q (op :: rest) a := by
  refine wpStill_step fun K hK => ?_
  simp only [Region.wanted, hgd, if_true]
  unfold Oper.still execOp
  simp only [ho, hx, Instr.loadAt, Instr.sureAddr, Sem.run_bind, Sem.run_pure, Result.andThen_ok, run_loadVar_mid w b o ty cs d hc hu hd hi]
  exact ⟨rfl, hK _ h⟩
def settL (no : Secs) (lo : List Wr) (su : Secs) : Secs := lo.foldl (fun s x => s.set x.1 (no.getD x.1 [])) su
theorem settL_snoc (no : Secs) (lo : List Wr) (x : Wr) (su : Secs) : settL no (lo ++ [x]) su = (settL no lo su).set x.1 (no.getD x.1 []) := by simp [settL]
theorem kept_sets {X : Nat → Prop} {a b : World} (h : Kept X a b) {g : Nat} {b' : World} (k : Kept (fun j => j = g) b b') (hg : X g) : Kept X a b' := h.trans k (fun _ _ h => h) (fun _ _ e => by subst e; exact hg)
set_option maxHeartbeats 1000000 in
set_option maxRecDepth 100000 in
theorem settle_any {base : Nat} {w : World} {F : Fp} {st : St} (h : Raw base w F st) (hll : st.lo.length ≤ 1000000000) :
    Calls Tryd.prog 47 #[.pointer (some ⟨F.b, 0, none⟩)] w (VoidRaw base F { F with lv := .slice none 0 0 } { st with su := settL st.no st.lo st.su, lo := [] } w) := by
  obtain ⟨c0, c1, c2, c3, c4⟩ := h.cells
  obtain ⟨ao, cap, elv⟩ := h.own3.form
  rw [elv] at c2
  have H := Lib.hid h
  have HLV := Lib.hid elv
  have hn2 := h.n2
  clear h elv
  go_enter Tryd.func47, Tryd.ntmps47
  go_wp2_with fail
  go_loopw [9] (fun v9 wr => ∃ k : Nat, k ≤ st.lo.length ∧ v9 = .int .i64 k ∧ Hid (Raw base wr F { st with su := settL st.no (st.lo.take k) st.su }) ∧ Kept (foot F) w wr) (fun v9 _ => st.lo.length - (intOf v9).toNat)
  case atStart => exact ⟨0, by omega, rfl, Lib.hid (by simpa [settL] using H.out), Kept.refl _ _⟩
  case round =>
    obtain ⟨k, hk, rfl, hR, hK⟩ := hrel
    obtain ⟨d0, d1, d2, d3, d4⟩ := hR.out.cells
    by_cases hkl : k < st.lo.length
    · obtain ⟨x, hx⟩ := some_at hkl
      obtain ⟨g, cap', e2, hg, hrg, hx64⟩ := own_wr hR.out.own3 hx
      obtain ⟨rfl, rfl⟩ : ao = some ⟨g, 0, none⟩ ∧ cap' = cap := by rw [HLV.out] at e2; injection e2 with a b c; exact ⟨a, c.symm⟩
      have hxn : x.1 < st.no.length := hR.out.lat x (List.mem_of_getElem? hx)
      obtain ⟨y, hy⟩ := some_at hxn
      obtain ⟨r1, t1, y64⟩ := own_sec hR.out.own2 hy
      have HI1 := Lib.hid (cs_info y y64)
      have HI2 := Lib.hid (wr_info x hx64)
      obtain ⟨dw, hdw1, hdw2⟩ := u_wr
      have HU1 := Lib.hid hdw1
      have HU2 := Lib.hid hdw2
      have HX := Lib.hid hx
      have HY := Lib.hid hy
      have hkl2 : (k : Int) < (st.lo.length : Int) := by omega
      have HXN := Lib.hid hxn
      have hlim : k ≤ 1000000000 := by omega
      have hxn2 : (x.1 : Int) < (st.no.length : Int) := by omega
      have HRG := Lib.hid hrg
      clear hx hy hdw1 hdw2 hxn hrg e2 hg
      go_wp2_with (first
        | (refine wpList_load_mid rfl 89 _ rfl g (k * 65) rfl (wrCells x) dw HRG.out HU1.out HU2.out HI2.out ?_)
        | (refine wpList_alloc_wr rfl rfl ?_)
        | (refine wpList_store_wr rfl _ _ rfl rfl x rfl hx64 ?_))
      have HA := Lib.hid (hR.out.below ((Below.refl _ wr).alloc (Nat.le_refl _) (.cells (wrCells x).toArray 89)))
      obtain ⟨W2, hW2, HR2, gx, hK2⟩ : ∃ W2, { (wr.alloc (.cells (wrCells x).toArray 89)) with drawn := (wr.alloc (.cells (wrCells x).toArray 89)).drawn + 1 } = W2 ∧ Raw base W2 F { st with su := settL st.no (st.lo.take k) st.su } ∧
          W2.cell? ⟨wr.heap.size, 0, none⟩ = some (.int .i64 (x.1 : Int)) ∧ Kept (foot F) w W2 :=
        ⟨_, rfl, HA.out.below (Below.refl _ _).drew, by show (World.alloc _ _).cell? _ = _; simp [go_sem, wrCells], hK.new.step (Below.refl _ _).drew⟩
      obtain ⟨q0, q1, q2, q3, q4⟩ := HR2.cells
      obtain ⟨gr, gt, _⟩ := own_sec HR2.own2 HY.out
      obtain ⟨z, hz⟩ := some_at (l := settL st.no (st.lo.take k) st.su) (k := x.1) (by have := HR2.sn; have := HXN.out; simp only at *; omega)
      obtain ⟨_, gs, _⟩ := own_sec HR2.own1 hz
      have hS := HR2.setS HXN.out y64
      have HS := Lib.hid hS
      have HK2 := Lib.hid hK2
      have GT := Lib.hid gs
      have GR := Lib.hid gr
      clear hS hK2 gs gr hz HA HR2 r1 t1
      refine wp_region_still_tail 15 (by kernel_rfl) (by kernel_rfl) ?_
      rw [hW2]
      clear hW2
      simp only [List.take_succ_cons, List.take_zero, List.drop_succ_cons, List.drop_zero]
      repeat still_step
      refine wpStill_load_mid rfl 79 _ rfl F.m (x.1 * 64) rfl (Cs y) _ GR.out u_sec rfl HI1.out ?_
      repeat still_step
      refine wpStill_nil ?_
      refine wpList_store_mid rfl 79 _ _ rfl F.s (x.1 * 64) (Cs y).toArray rfl rfl (by simpa [cs_len, y64] using GT.out) (by simpa using HI1.out) (all_oneCell_toArray (cs_one y)) ?_
      go_wp2_with fail
      go_roundw
      case measure => simp [intOf]; omega
      case rel =>
        refine ⟨k + 1, by omega, by go_num, Lib.hid ?_, ?_⟩
        · have e := HS.out.1
          rw [take_at2 HX.out, settL_snoc]
          simpa [List.getD_eq_getElem?_getD, HY.out] using e
        · simpa using kept_sets HK2.out HS.out.2 (.inr (.inl rfl))
    · obtain rfl : k = st.lo.length := by omega
      have f2 := hR.out.free 2
      go_wp2_with fail
      go_end0
      refine ⟨rfl, ?_, hK.set (.inl rfl)⟩
      have e := hR.out.set2 (v := .slice none 0 0) (lo := []) (Own.nil _ _ _ _ _) (by simp) (by simp [Value.ownBlock]) (by simp [Value.ownBlock]) (by simp [Value.ownBlock]) (fun _ => rfl)
      rw [List.take_length] at e
      exact e
end Go.Proofs.YtaljgcdjkmpljaaDoor
