/- Crash. -/
import Derived.Test.YtaljgcdjkmpljaaDoorPl4
namespace Go.Proofs.YtaljgcdjkmpljaaDoor
open Go.RowKit Lift
set_option linter.unusedSimpArgs false
set_option linter.unusedVariables false

theorem kOf_le (keep : List Int) (i : Nat) : kOf keep i ≤ 128 := by unfold kOf; split <;> omega
theorem kOf_mod {keep : List Int} {i : Nat} {c : Int} (h : keep[i]? = some c) : (IntKind.u64.wrap c).tmod 129 = (kOf keep i : Int) := by
  have hi := (List.getElem?_eq_some_iff.1 h).1
  unfold kOf
  rw [if_pos hi, IntKind.wrap_u64]
  have : keep.getD i 0 = c := by simp [List.getD_eq_getElem?_getD, h]
  rw [this, Int.tmod_eq_emod_of_nonneg (by omega)]
  omega
theorem kOf_no {keep : List Int} {i : Nat} (h : ¬ i < keep.length) : kOf keep i = 0 := by unfold kOf; rw [if_neg h]
theorem wpList_copy_cells {ops : Array Oper} {rest : List Oper} {o : Oper} {a : Act} {w : World} {Q : Exit → Act → World → Prop} (hgd : o.guard = none) (d s : Operand) (ho : o.op = .call { callee := .builtin .copy, args := #[d, s], argTypes := #[32, 32] })
    (b f dCap : Nat) (ad : Addr) (sCap : Nat) (l : List UInt8) (n : Nat) (hn : n = l.length) (hd : a.eval d = .slice (some ⟨b, f, none⟩) n dCap) (hs : a.eval s = .slice (some ad) n sCap)
    (hsrc : w.rangeAt ad.block ad.off (Cs l)) (had : ad.spot = none) (hth : w.there b f l.length)
    (h : wpList Tryd.prog ops Q rest (a.put o.dst (goInt n)) (w.setCells b f (Cs l))) : wpList Tryd.prog ops Q (o :: rest) a w := by
  subst hn
  refine wpList_plain hgd fun K hK => ?_
  have hl : (Cs l).length = l.length := cs_len l
  obtain ⟨ab, ao, asp⟩ := ad
  simp only at had
  subst had
  have hrun := run_copy_cells (P := Tryd.prog) w 32 32 o.type 5 b f l.length dCap ⟨ab, ao, none⟩ l.length sCap (Cs l) Tryd.underlying32 (by kernel_rfl) (by rw [hl]; exact (Nat.min_self _).symm)
    (fun j v hv => by rw [Addr.add_mid]; exact hsrc j v hv) (fun j hj => (hth j (by rw [hl] at hj; exact hj)).1) (fun j hj => (hth j (by rw [hl] at hj; exact hj)).2) (cs_one l)
  rw [hl] at hrun
  unfold Oper.wp
  simp [execOp, ho, resolve, invoke, builtin, hd, hs, hrun, Result.andThen]
  exact hK _ _ h

theorem range_take {w : World} {b o : Nat} {l : List UInt8} (h : w.rangeAt b o (Cs l)) (n : Nat) : w.rangeAt b o (Cs (l.take n)) := by
  intro j v hv
  have hj := (List.getElem?_eq_some_iff.1 hv).1
  rw [cs_len, List.length_take] at hj
  refine h j v ?_
  rw [show Cs (l.take n) = (Cs l).take n by simp [Lib.byteCells, List.map_take], List.getElem?_take_of_lt (by omega)] at hv
  exact hv
theorem there_part {w : World} {b o n : Nat} (h : w.there b o n) (f m : Nat) (hf : f + m ≤ n) : w.there b (o + f) m := fun j hj => by
  have := h (f + j) (by omega)
  rwa [show o + (f + j) = o + f + j by omega] at this
theorem tear_small {old new : List UInt8} {k : Nat} (h1 : old.length = 64) (h2 : new.length = 64) (hk : k ≤ 64) : tear old new k = old.take 0 ++ (new.drop 0).take k ++ old.drop (0 + ((new.drop 0).take k).length) := by
  unfold tear
  rw [if_pos hk]
  simp [h2, Nat.min_eq_left hk]
theorem tear_great {old new : List UInt8} {k f : Nat} (h1 : old.length = 64) (h2 : new.length = 64) (hk : 64 < k) (hf : f = 128 - k) : tear old new k = old.take f ++ (new.drop f).take (64 - f) ++ old.drop (f + ((new.drop f).take (64 - f)).length) := by
  unfold tear
  rw [if_neg (by omega), ← hf]
  rw [List.take_of_length_le (l := new.drop f) (by simp; omega), List.drop_of_length_le (l := old) (by simp; omega), List.append_nil]

theorem drop_wr (x : Wr) (f : Nat) : (wrCells x).toArray.toList.drop (1 + f) = Cs (x.2.drop f) := by
  rw [Nat.add_comm]; simp [wrCells, Lib.byteCells, List.map_drop]
theorem fit_part {l : List UInt8} (h : l.length = 64) {f n : Nat} (hf : f + n ≤ 64) : ((l.drop f).take n).length = n := by
  rw [List.length_take, List.length_drop, h]; omega
theorem fit_le {l : List UInt8} {f n : Nat} (h : l.length = n) (hf : f + n ≤ 64) : f + l.length ≤ 64 := by rw [h]; exact hf

def crashS (st : St) (keep : List Int) : St :=
  let n1 := settL st.su st.lo st.no
  let n2 := tearL keep 0 st.lo n1
  { su := settL n2 st.lo st.su, no := n2, lo := [], fu := -1, off := false }
theorem settL_len (no : Secs) : ∀ (lo : List Wr) (su : Secs), (settL no lo su).length = su.length
  | [], su => rfl
  | x :: r, su => by unfold settL; rw [List.foldl_cons]; exact (settL_len no r _).trans (by simp)
theorem tearL_len (keep : List Int) : ∀ (lo : List Wr) (i : Nat) (no : Secs), (tearL keep i lo no).length = no.length
  | [], i, no => rfl
  | x :: r, i, no => by unfold tearL; exact (tearL_len keep r _ _).trans (by simp)
set_option maxHeartbeats 8000000 in
set_option maxRecDepth 100000 in
theorem crash_any {base : Nat} {w : World} {F : Fp} {st : St} (h : Raw base w F st) (hll : st.lo.length ≤ 1000000000) (ko : Option Addr) (kcap : Nat) (keep : List Int) (hkl : keep.length ≤ 9223372036854775807) (hkeep : SlAt (Rd.int .i64) (fun b => ¬ foot F b) w ko keep) :
    Calls Tryd.prog 19 #[.pointer (some ⟨F.b, 0, none⟩), .slice ko keep.length kcap] w (VoidRaw base F { F with lv := .slice none 0 0 } (crashS st keep) w) := by
  obtain ⟨c0, c1, c2, c3, c4⟩ := h.cells
  obtain ⟨ao, cap, elv⟩ := h.own3.form
  rw [elv] at c2
  have H := Lib.hid h
  have HLV := Lib.hid elv
  have hn2 := h.n2
  have HK := Lib.hid hkeep
  clear h elv hkeep
  go_enter Tryd.func19, Tryd.ntmps19
  go_wp2_with fail
  go_loopw [16] (fun v16 wr => ∃ k : Nat, k ≤ st.lo.length ∧ v16 = .int .i64 k ∧ Hid (Raw base wr F { st with no := settL st.su (st.lo.take k) st.no }) ∧ Kept (foot F) w wr) (fun v16 _ => st.lo.length - (intOf v16).toNat)
  case atStart => exact ⟨0, by omega, rfl, Lib.hid (by simpa [settL] using H.out), Kept.refl _ _⟩
  case round =>
    obtain ⟨k, hk, rfl, hR, hK⟩ := hrel
    obtain ⟨d0, d1, d2, d3, d4⟩ := hR.out.cells
    have hlen : (settL st.su (st.lo.take k) st.no).length = st.no.length := settL_len _ _ _
    simp only [hlen] at d0 d1
    have HLEN := Lib.hid hlen
    clear hlen
    by_cases hkl : k < st.lo.length
    · obtain ⟨x, hx⟩ := some_at hkl
      obtain ⟨g, cap', e2, hg, hrg, hx64⟩ := own_wr hR.out.own3 hx
      obtain ⟨rfl, rfl⟩ : ao = some ⟨g, 0, none⟩ ∧ cap' = cap := by rw [HLV.out] at e2; injection e2 with a b c; exact ⟨a, c.symm⟩
      have hxn : x.1 < st.no.length := by have := hR.out.lat x (List.mem_of_getElem? hx); simp only [HLEN.out] at this; exact this
      obtain ⟨y, hy⟩ := some_at (l := st.su) (k := x.1) (by have := hR.out.sn; simp only [HLEN.out] at this; omega)
      obtain ⟨r1, t1, y64⟩ := own_sec hR.out.own1 hy
      have HI1 := Lib.hid (cs_info y y64)
      have HI2 := Lib.hid (wr_info x hx64)
      obtain ⟨dw, hdw1, hdw2⟩ := u_wr
      have HU1 := Lib.hid hdw1
      have HU2 := Lib.hid hdw2
      have HX := Lib.hid hx
      have HY := Lib.hid hy
      have hkl2 : (k : Int) < (st.lo.length : Int) := by omega
      have HXN := Lib.hid hxn
      have hlim : k ≤ 1000000000 := by omega
      have hxn2 : (x.1 : Int) < (st.no.length : Int) := by omega
      have HRG := Lib.hid hrg
      clear hx hy hdw1 hdw2 hxn hrg e2 hg
      go_wp2_with (first
        | (refine wpList_load_mid rfl 89 _ rfl g (k * 65) rfl (wrCells x) dw HRG.out HU1.out HU2.out HI2.out ?_)
        | (refine wpList_alloc_wr rfl rfl ?_)
        | (refine wpList_store_wr rfl _ _ rfl rfl x rfl hx64 ?_))
      have HA := Lib.hid (hR.out.below ((Below.refl _ wr).alloc (Nat.le_refl _) (.cells (wrCells x).toArray 89)))
      obtain ⟨W2, hW2, HR2, gx, hK2⟩ : ∃ W2, { (wr.alloc (.cells (wrCells x).toArray 89)) with drawn := (wr.alloc (.cells (wrCells x).toArray 89)).drawn + 1 } = W2 ∧ Raw base W2 F { st with no := settL st.su (st.lo.take k) st.no } ∧
          W2.cell? ⟨wr.heap.size, 0, none⟩ = some (.int .i64 (x.1 : Int)) ∧ Kept (foot F) w W2 :=
        ⟨_, rfl, HA.out.below (Below.refl _ _).drew, by show (World.alloc _ _).cell? _ = _; simp [go_sem, wrCells], hK.new.step (Below.refl _ _).drew⟩
      obtain ⟨q0, q1, q2, q3, q4⟩ := HR2.cells
      simp only [HLEN.out] at q0 q1
      obtain ⟨gr, gt, _⟩ := own_sec HR2.own1 HY.out
      have hxn3 : x.1 < (settL st.su (st.lo.take k) st.no).length := by rw [HLEN.out]; exact HXN.out
      obtain ⟨z, hz⟩ := some_at hxn3
      obtain ⟨_, gs, _⟩ := own_sec HR2.own2 hz
      have hS := HR2.setN hxn3 y64
      have HS := Lib.hid hS
      have HK2 := Lib.hid hK2
      have GT := Lib.hid gs
      have GR := Lib.hid gr
      clear hS hK2 gs gr hz HA HR2 r1 t1 hxn3
      refine wp_region_still_tail 15 (by kernel_rfl) (by kernel_rfl) ?_
      rw [hW2]
      clear hW2
      simp only [List.take_succ_cons, List.take_zero, List.drop_succ_cons, List.drop_zero]
      repeat still_step
      refine wpStill_load_mid rfl 79 _ rfl F.s (x.1 * 64) rfl (Cs y) _ GR.out u_sec rfl HI1.out ?_
      repeat still_step
      refine wpStill_nil ?_
      refine wpList_store_mid rfl 79 _ _ rfl F.m (x.1 * 64) (Cs y).toArray rfl rfl (by simpa [cs_len, y64] using GT.out) (by simpa using HI1.out) (all_oneCell_toArray (cs_one y)) ?_
      go_wp2_with fail
      go_roundw
      case measure => simp [intOf]; omega
      case rel =>
        refine ⟨k + 1, by omega, by go_num, Lib.hid ?_, ?_⟩
        · have e := HS.out.1
          rw [take_at2 HX.out, settL_snoc]
          simpa [List.getD_eq_getElem?_getD, HY.out] using e
        · simpa using kept_sets HK2.out HS.out.2 (.inr (.inr (.inl rfl)))
    · obtain rfl : k = st.lo.length := by omega
      rw [List.take_length] at hR HLEN
      obtain ⟨n1, hn1⟩ : ∃ n1, settL st.su st.lo st.no = n1 := ⟨_, rfl⟩
      rw [hn1] at hR HLEN
      have HN1 := Lib.hid hn1
      clear hn1
      rw [HLV.out] at d2
      go_wp2_with fail
      obtain ⟨W1, hW1⟩ : ∃ W1, wr = W1 := ⟨_, rfl⟩
      subst hW1
      clear d0 d1 d2 d3 d4 hk hkl c0 c1 c2 c3 c4
      go_loopw [41] (fun v41 w2 => ∃ k : Nat, k ≤ st.lo.length ∧ v41 = .int .i64 k ∧ Hid (Raw base w2 F { st with no := tearL keep 0 (st.lo.take k) n1 }) ∧ Kept (foot F) w w2) (fun v41 _ => st.lo.length - (intOf v41).toNat)
      case atStart => exact ⟨0, by omega, rfl, Lib.hid (by simpa [tearL] using hR.out), hK⟩
      case round =>
        clear hR hK
        obtain ⟨k, hk, rfl, hR, hK⟩ := hrel
        obtain ⟨d0, d1, d2, d3, d4⟩ := hR.out.cells
        have hlen : (tearL keep 0 (st.lo.take k) n1).length = st.no.length := by rw [tearL_len, HLEN.out]
        simp only [hlen] at d0 d1
        have HLE2 := Lib.hid hlen
        clear hlen
        by_cases hkl : k < st.lo.length
        · obtain ⟨x, hx⟩ := some_at hkl
          obtain ⟨g, cap', e2, hg, hrg, hx64⟩ := own_wr hR.out.own3 hx
          obtain ⟨rfl, rfl⟩ : ao = some ⟨g, 0, none⟩ ∧ cap' = cap := by rw [HLV.out] at e2; injection e2 with a b c; exact ⟨a, c.symm⟩
          have hxn : x.1 < st.no.length := by have := hR.out.lat x (List.mem_of_getElem? hx); simp only [HLE2.out] at this; exact this
          have hxn3 : x.1 < (tearL keep 0 (st.lo.take k) n1).length := by rw [HLE2.out]; exact hxn
          obtain ⟨y, hy⟩ := some_at hxn3
          obtain ⟨r1, t1, y64⟩ := own_sec hR.out.own2 hy
          have HI2 := Lib.hid (wr_info x hx64)
          obtain ⟨dw, hdw1, hdw2⟩ := u_wr
          have HU1 := Lib.hid hdw1
          have HU2 := Lib.hid hdw2
          have HX := Lib.hid hx
          have HY := Lib.hid hy
          have hkl2 : (k : Int) < (st.lo.length : Int) := by omega
          have HXN := Lib.hid hxn3
          have hlim : k ≤ 1000000000 := by omega
          have hxn2 : (x.1 : Int) < (st.no.length : Int) := by omega
          have HRG := Lib.hid hrg
          have hkk := kOf_le keep k
          have HX64 := Lib.hid hx64
          have HY64 := Lib.hid y64
          clear hx hy hdw1 hdw2 hxn hrg e2 hg hxn3 r1 t1 y64
          by_cases hik : k < keep.length
          · obtain ⟨c, hc⟩ := some_at hik
            obtain ⟨kb, koff, cs0, rfl, _, hkb, ⟨rfl, _⟩, hcell⟩ := (HK.out.kept hK (fun b hb _ => hb)).get hc
            have hik2 : (k : Int) < (keep.length : Int) := by omega
            have HMOD := Lib.hid (kOf_mod hc)
            have HW64 := Lib.hid (show wrap64 (kOf keep k : Int) = (kOf keep k : Int) by unfold wrap64; omega)
            have HW129 := Lib.hid (show IntKind.u64.wrap 129 = 129 by decide)
            obtain ⟨kk, hkk0⟩ : ∃ kk, kOf keep k = kk := ⟨_, rfl⟩
            rw [hkk0] at HMOD HW64 hkk
            have HKK := Lib.hid hkk0
            have hcell0 : wr.cell? ⟨kb, koff + k, none⟩ = some (.int .i64 c) := by simpa [Rd.int] using hcell 0 _ rfl
            clear hkk0 hcell hc hik
            by_cases h64 : kk ≤ 64
            · have hd64 : decide ((64 : Int) < (kk : Int)) = false := by simp; omega
              have h64i : (kk : Int) ≤ 64 := by omega
              have HFN := Lib.hid (show 0 + kk ≤ 64 by omega)
              have hmod := HMOD.out
              have hw129 := HW129.out
              go_wp2_with (first
                | (refine wpList_load_mid rfl 89 _ rfl g (k * 65) rfl (wrCells x) dw HRG.out HU1.out HU2.out HI2.out ?_)
                | (refine wpList_alloc_wr rfl rfl ?_)
                | (refine wpList_store_wr rfl _ _ rfl rfl x rfl HX64.out ?_))
              clear hmod hw129
              have HA := Lib.hid (hR.out.below ((Below.refl _ wr).alloc (Nat.le_refl _) (.cells (wrCells x).toArray 89)))
              obtain ⟨W2, hW2, HR2, gx, hgr, hK2⟩ : ∃ W2, { (wr.alloc (.cells (wrCells x).toArray 89)) with drawn := (wr.alloc (.cells (wrCells x).toArray 89)).drawn + 1 } = W2 ∧ Raw base W2 F { st with no := tearL keep 0 (st.lo.take k) n1 } ∧
                  W2.cell? ⟨wr.heap.size, 0, none⟩ = some (.int .i64 (x.1 : Int)) ∧ W2.heap[wr.heap.size]? = some (.cells (wrCells x).toArray 89 (0, 0)) ∧ Kept (foot F) w W2 :=
                ⟨_, rfl, HA.out.below (Below.refl _ _).drew, by show (World.alloc _ _).cell? _ = _; simp [go_sem, wrCells], heap_alloc_last wr _, hK.new.step (Below.refl _ _).drew⟩
              obtain ⟨q0, q1, q2, q3, q4⟩ := HR2.cells
              simp only [HLE2.out] at q0 q1
              obtain ⟨gr, gt, _⟩ := own_sec HR2.own2 HY.out
              have hfit : ((x.2.drop 0).take kk).length = kk := fit_part HX64.out HFN.out
              have GT := Lib.hid (there_part gt 0 ((x.2.drop 0).take kk).length (fit_le hfit HFN.out))
              have HS := Lib.hid (HR2.part (k := x.1) (f := 0) (news := (x.2.drop 0).take kk) HXN.out HY.out (fit_le hfit HFN.out))
              have HK2 := Lib.hid hK2
              have HF := Lib.hid hfit
              have GR := Lib.hid (range_take (row_at hgr (1 + 0) (Cs (x.2.drop 0)) (drop_wr x 0)) kk)
              have HTE := Lib.hid (tear_small HY64.out HX64.out h64)
              clear hK2 gr gt hgr HA HR2 hfit
              refine wp_region_still_tail 14 (by kernel_rfl) (by kernel_rfl) ?_
              rw [hW2]
              clear hW2
              simp only [List.take_succ_cons, List.take_zero, List.drop_succ_cons, List.drop_zero]
              repeat still_step
              refine wpStill_nil ?_
              refine wpList_copy_cells rfl _ _ rfl F.m (x.1 * 64 + 0) _ ⟨wr.heap.size, 1 + 0, none⟩ _ ((x.2.drop 0).take kk) (kk) HF.out.symm rfl rfl GR.out rfl GT.out ?_
              go_wp2_with fail
              go_roundw
              case measure => simp [intOf]; omega
              case rel =>
                refine ⟨k + 1, by omega, by go_num, Lib.hid ?_, ?_⟩
                · have e := HS.out.1
                  have hlt : (st.lo.take k).length = k := by simp; omega
                  rw [take_at2 HX.out, tearL_snoc, hlt, Nat.zero_add]
                  rw [show (tearL keep 0 (st.lo.take k) n1).getD x.1 [] = y by simp [List.getD_eq_getElem?_getD, HY.out], HKK.out, HTE.out]
                  exact e
                · exact kept_sets HK2.out HS.out.2 (.inr (.inr (.inl rfl)))
            · obtain ⟨f, hf⟩ : ∃ f, f = 128 - kk := ⟨_, rfl⟩
              have hd64 : decide ((64 : Int) < (kk : Int)) = true := by simp; omega
              have hfi : (128 : Int) - (kk : Int) = (f : Int) := by omega
              have hf64 : (f : Int) < 64 := by omega
              have hf64b : (f : Int) ≤ 64 := by omega
              have hf63 : f < 64 := by omega
              have hf65 : ¬ 64 = f := by omega
              have HFN := Lib.hid (show f + (64 - f) ≤ 64 by omega)
              have hmod := HMOD.out
              have hw129 := HW129.out
              have HFK := Lib.hid hf
              clear hf
              go_wp2_with (first
                | (refine wpList_load_mid rfl 89 _ rfl g (k * 65) rfl (wrCells x) dw HRG.out HU1.out HU2.out HI2.out ?_)
                | (refine wpList_alloc_wr rfl rfl ?_)
                | (refine wpList_store_wr rfl _ _ rfl rfl x rfl HX64.out ?_))
              clear hmod hw129 hfi
              have HA := Lib.hid (hR.out.below ((Below.refl _ wr).alloc (Nat.le_refl _) (.cells (wrCells x).toArray 89)))
              obtain ⟨W2, hW2, HR2, gx, hgr, hK2⟩ : ∃ W2, { (wr.alloc (.cells (wrCells x).toArray 89)) with drawn := (wr.alloc (.cells (wrCells x).toArray 89)).drawn + 1 } = W2 ∧ Raw base W2 F { st with no := tearL keep 0 (st.lo.take k) n1 } ∧
                  W2.cell? ⟨wr.heap.size, 0, none⟩ = some (.int .i64 (x.1 : Int)) ∧ W2.heap[wr.heap.size]? = some (.cells (wrCells x).toArray 89 (0, 0)) ∧ Kept (foot F) w W2 :=
                ⟨_, rfl, HA.out.below (Below.refl _ _).drew, by show (World.alloc _ _).cell? _ = _; simp [go_sem, wrCells], heap_alloc_last wr _, hK.new.step (Below.refl _ _).drew⟩
              obtain ⟨q0, q1, q2, q3, q4⟩ := HR2.cells
              simp only [HLE2.out] at q0 q1
              obtain ⟨gr, gt, _⟩ := own_sec HR2.own2 HY.out
              have hfit : ((x.2.drop f).take (64 - f)).length = (64 - f) := fit_part HX64.out HFN.out
              have GT := Lib.hid (there_part gt f ((x.2.drop f).take (64 - f)).length (fit_le hfit HFN.out))
              have HS := Lib.hid (HR2.part (k := x.1) (f := f) (news := (x.2.drop f).take (64 - f)) HXN.out HY.out (fit_le hfit HFN.out))
              have HK2 := Lib.hid hK2
              have HF := Lib.hid hfit
              have GR := Lib.hid (range_take (row_at hgr (1 + f) (Cs (x.2.drop f)) (drop_wr x f)) (64 - f))
              have HTE := Lib.hid (tear_great HY64.out HX64.out (Nat.lt_of_not_le h64) HFK.out)
              clear hK2 gr gt hgr HA HR2 hfit
              refine wp_region_still_tail 14 (by kernel_rfl) (by kernel_rfl) ?_
              rw [hW2]
              clear hW2
              simp only [List.take_succ_cons, List.take_zero, List.drop_succ_cons, List.drop_zero]
              repeat still_step
              refine wpStill_nil ?_
              refine wpList_copy_cells rfl _ _ rfl F.m (x.1 * 64 + f) _ ⟨wr.heap.size, 1 + f, none⟩ _ ((x.2.drop f).take (64 - f)) (64 - f) HF.out.symm rfl rfl GR.out rfl GT.out ?_
              go_wp2_with fail
              go_roundw
              case measure => simp [intOf]; omega
              case rel =>
                refine ⟨k + 1, by omega, by go_num, Lib.hid ?_, ?_⟩
                · have e := HS.out.1
                  have hlt : (st.lo.take k).length = k := by simp; omega
                  rw [take_at2 HX.out, tearL_snoc, hlt, Nat.zero_add]
                  rw [show (tearL keep 0 (st.lo.take k) n1).getD x.1 [] = y by simp [List.getD_eq_getElem?_getD, HY.out], HKK.out, HTE.out]
                  exact e
                · exact kept_sets HK2.out HS.out.2 (.inr (.inr (.inl rfl)))
          · have hik2 : decide ((k : Int) < (keep.length : Int)) = false := by simp; omega
            have HKK := Lib.hid (kOf_no hik)
            have HFN := Lib.hid (show 0 + 0 ≤ 64 by omega)
            have hkb := hK
            go_wp2_with (first
              | (refine wpList_load_mid rfl 89 _ rfl g (k * 65) rfl (wrCells x) dw HRG.out HU1.out HU2.out HI2.out ?_)
              | (refine wpList_alloc_wr rfl rfl ?_)
              | (refine wpList_store_wr rfl _ _ rfl rfl x rfl HX64.out ?_))
            clear hkb
            have HA := Lib.hid (hR.out.below ((Below.refl _ wr).alloc (Nat.le_refl _) (.cells (wrCells x).toArray 89)))
            obtain ⟨W2, hW2, HR2, gx, hgr, hK2⟩ : ∃ W2, { (wr.alloc (.cells (wrCells x).toArray 89)) with drawn := (wr.alloc (.cells (wrCells x).toArray 89)).drawn + 1 } = W2 ∧ Raw base W2 F { st with no := tearL keep 0 (st.lo.take k) n1 } ∧
                W2.cell? ⟨wr.heap.size, 0, none⟩ = some (.int .i64 (x.1 : Int)) ∧ W2.heap[wr.heap.size]? = some (.cells (wrCells x).toArray 89 (0, 0)) ∧ Kept (foot F) w W2 :=
              ⟨_, rfl, HA.out.below (Below.refl _ _).drew, by show (World.alloc _ _).cell? _ = _; simp [go_sem, wrCells], heap_alloc_last wr _, hK.new.step (Below.refl _ _).drew⟩
            obtain ⟨q0, q1, q2, q3, q4⟩ := HR2.cells
            simp only [HLE2.out] at q0 q1
            obtain ⟨gr, gt, _⟩ := own_sec HR2.own2 HY.out
            have hfit : ((x.2.drop 0).take 0).length = 0 := fit_part HX64.out HFN.out
            have GT := Lib.hid (there_part gt 0 ((x.2.drop 0).take 0).length (fit_le hfit HFN.out))
            have HS := Lib.hid (HR2.part (k := x.1) (f := 0) (news := (x.2.drop 0).take 0) HXN.out HY.out (fit_le hfit HFN.out))
            have HK2 := Lib.hid hK2
            have HF := Lib.hid hfit
            have GR := Lib.hid (range_take (row_at hgr (1 + 0) (Cs (x.2.drop 0)) (drop_wr x 0)) 0)
            have HTE := Lib.hid (tear_small (k := 0) HY64.out HX64.out (by omega))
            clear hK2 gr gt hgr HA HR2 hfit
            refine wp_region_still_tail 14 (by kernel_rfl) (by kernel_rfl) ?_
            rw [hW2]
            clear hW2
            simp only [List.take_succ_cons, List.take_zero, List.drop_succ_cons, List.drop_zero]
            repeat still_step
            refine wpStill_nil ?_
            refine wpList_copy_cells rfl _ _ rfl F.m (x.1 * 64 + 0) _ ⟨wr.heap.size, 1 + 0, none⟩ _ ((x.2.drop 0).take 0) (0) HF.out.symm rfl rfl GR.out rfl GT.out ?_
            go_wp2_with fail
            go_roundw
            case measure => simp [intOf]; omega
            case rel =>
              refine ⟨k + 1, by omega, by go_num, Lib.hid ?_, ?_⟩
              · have e := HS.out.1
                have hlt : (st.lo.take k).length = k := by simp; omega
                rw [take_at2 HX.out, tearL_snoc, hlt, Nat.zero_add]
                rw [show (tearL keep 0 (st.lo.take k) n1).getD x.1 [] = y by simp [List.getD_eq_getElem?_getD, HY.out], HKK.out, HTE.out]
                exact e
              · exact kept_sets HK2.out HS.out.2 (.inr (.inr (.inl rfl)))
        · obtain rfl : k = st.lo.length := by omega
          rw [List.take_length] at hR HLE2
          have hll2 := hll
          clear d0 d1 d2 d3 d4
          go_wp2_with ((with_reducible refine (settle_any hR.out hll2).mono ?_); rintro e w5 ⟨rfl, hR5, hK5⟩; have H5 := Lib.hid hR5; have HK5 := Lib.hid hK5; have f3 : w5.frozen? ⟨F.b, 3, none⟩ = false := hR5.free 3; have f4 : w5.frozen? ⟨F.b, 4, none⟩ = false := hR5.free 4; have c3 : w5.cell? ⟨F.b, 3, none⟩ = some (.int .i64 st.fu) := hR5.cells.2.2.2.1; have c4 : w5.cell? ⟨F.b, 4, none⟩ = some (.bool st.off) := hR5.cells.2.2.2.2; clear hR5 hK5)
          go_end0
          have e := (H5.out.set4 false).set3 (x := -1) (by omega) (by omega)
          refine ⟨rfl, ?_, ((hK.trans HK5.out (Z := foot F) (fun _ _ h => h) (fun _ _ h => h)).set (.inl rfl)).set (.inl rfl)⟩
          unfold crashS
          simp only [HN1.out]
          exact e
end Go.Proofs.YtaljgcdjkmpljaaDoor
