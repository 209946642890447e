/- JournalDoes, walked (under way). -/
import Derived.Test.YtaljgcdjkmpljaaDoorRjB
namespace Go.Proofs.YtaljgcdjkmpljaaDoor
open Go.RowKit Lift
set_option linter.unusedSimpArgs false
set_option linter.unusedVariables false

set_option maxHeartbeats 8000000 in
set_option maxRecDepth 100000 in
theorem law_does (cs : Array Value) (pw : Int × Int × Int × Int) (ao : Option Addr) (cap : Nat) (l : List Op4) (w : World) (hc : rWhere.rel (· < w.heap.size) w cs.toList pw) (h : SlArg rOp w ao cap l) :
    Calls Tryd.prog 6 #[.agg cs, .slice ao l.length cap] w (TruePost w) := by
  obtain ⟨x0, x1, x2, x3⟩ := pw
  obtain ⟨rfl, hw0, hw1, hw2, hw3⟩ := where_arg hc
  simp only at hw0 hw1 hw2 hw3 ⊢
  obtain ⟨gen, rfl, hgen⟩ := gen_nat2 hw3
  have HCW := Lib.hid hc
  have HSL := Lib.hid h
  have hl := h.at'
  have hll := Nat.le_trans h.le h.max
  clear h hc hw3
  unfold maxLen at hll
  have HLT := Lib.hid (fun W (hb : Below w.heap.size w W) => lightj_any ao cap l W (hl.old hb).here hll)
  by_cases hlight : lightJ l
  · have e1 : decide (lightJ l) = true := by simpa using hlight
    rw [e1] at HLT
    have HLI := Lib.hid hlight
    have h60 := hlight.1
    obtain ⟨mo, hm1, hm2, hm3, hm4⟩ := mod_index x0 60 (by omega) (by omega)
    have hm2' : IntKind.u64.wrap 60 = 60 := hm2
    have hm3' : (IntKind.u64.wrap x0).tmod 60 = (mo : Int) := hm3
    by_cases hpn : noPlace (St.new (1 + mo)) x1 x2
    · exact law_no #[.int .i64 x0, .int .i64 x1, .int .i64 x2, .int .u32 gen] (x0, x1, x2, (gen : Int)) ao cap l w HCW.out HSL.out HLI.out (fun m hm => by
        have hm' : (IntKind.u64.wrap x0).tmod ((60 : Nat) : Int) = (m : Int) := hm
        rw [hm3] at hm'
        have he : m = mo := by omega
        subst he
        exact hpn)
    have HNP := Lib.hid hpn
    clear hlight e1 hm2 hm3 hpn
    obtain ⟨W0, hW0⟩ : ∃ W0, w.alloc (.cells #[.int .i64 x0, .int .i64 x1, .int .i64 x2, .int .u32 gen] 49) = W0 := ⟨_, rfl⟩
    have hb0 : Below w.heap.size w W0 := by rw [← hW0]; exact (Below.refl _ _).alloc (Nat.le_refl _) _
    have HL0 := Lib.hid (HLT.out W0 hb0)
    have c0 : W0.cell? ⟨w.heap.size, 0, none⟩ = some (.int .i64 x0) := by rw [← hW0]; simp [go_sem]
    have c1 : W0.cell? ⟨w.heap.size, 1, none⟩ = some (.int .i64 x1) := by rw [← hW0]; simp [go_sem]
    have c2 : W0.cell? ⟨w.heap.size, 2, none⟩ = some (.int .i64 x2) := by rw [← hW0]; simp [go_sem]
    have c3 : W0.cell? ⟨w.heap.size, 3, none⟩ = some (.int .u32 gen) := by rw [← hW0]; simp [go_sem]
    have f0 : W0.frozen? ⟨w.heap.size, 0, none⟩ = false := by rw [← hW0]; simp [go_sem]
    have hs0 : w.heap.size < W0.heap.size := by rw [← hW0]; simp
    clear HLT
    go_enter Tryd.func6, Tryd.ntmps6
    obtain ⟨W1, hW1⟩ : ∃ W1, W0.setCell ⟨w.heap.size, 0, none⟩ (.int .i64 (1 + (mo : Int))) = W1 := ⟨_, rfl⟩
    have d0 : W1.cell? ⟨w.heap.size, 0, none⟩ = some (.int .i64 (1 + (mo : Int))) := by rw [← hW1]; exact World.cell?_setCell_same _ _ _ c0
    have d1 : W1.cell? ⟨w.heap.size, 1, none⟩ = some (.int .i64 x1) := by rw [← hW1]; simp [go_sem, c1]
    have d2 : W1.cell? ⟨w.heap.size, 2, none⟩ = some (.int .i64 x2) := by rw [← hW1]; simp [go_sem, c2]
    have d3 : W1.cell? ⟨w.heap.size, 3, none⟩ = some (.int .u32 gen) := by rw [← hW1]; simp [go_sem, c3]
    have hs1 : w.heap.size < W1.heap.size := by rw [← hW1]; simpa using hs0
    have hb1 : Below w.heap.size w W1 := by rw [← hW1]; exact hb0.setCell (Nat.le_refl _) _
    have HCC := Lib.hid (fun W (hb : Below W1.heap.size W1 W) => show W.cell? ⟨w.heap.size, 0, none⟩ = some (.int .i64 (1 + (mo : Int))) ∧ W.cell? ⟨w.heap.size, 1, none⟩ = some (.int .i64 x1) ∧ W.cell? ⟨w.heap.size, 2, none⟩ = some (.int .i64 x2) ∧ W.cell? ⟨w.heap.size, 3, none⟩ = some (.int .u32 gen) from
      ⟨(hb.cell (p := ⟨w.heap.size, 0, none⟩) hs1).trans d0, (hb.cell (p := ⟨w.heap.size, 1, none⟩) hs1).trans d1, (hb.cell (p := ⟨w.heap.size, 2, none⟩) hs1).trans d2, (hb.cell (p := ⟨w.heap.size, 3, none⟩) hs1).trans d3⟩)
    have hmo : mo ≤ 59 := by omega
    have HMO := Lib.hid hm1
    clear hm1 d1 d2 d3
    go_wp2_with (first
      | (go_at_call 20; refine HL0.out.mono ?_; rintro e w1 ⟨rfl, rfl⟩)
      | fail)
    obtain ⟨n, hn⟩ : ∃ n : Nat, 1 + (mo : Int) = (n : Int) := ⟨1 + mo, by omega⟩
    have hn1 : 1 ≤ n := by omega
    have hn60 : n ≤ 60 := by omega
    rw [hn] at HCC ⊢
    have hno : ¬ noPlace (St.new n) x1 x2 := by have h := HNP.out; rwa [show 1 + mo = n by omega] at h
    refine (pl_new W1 n n rfl hn1 (by omega)).mono ?_
    rintro e w2 ⟨pb, rfl, hP2, hB2⟩
    obtain ⟨y0, y1, y2, y3⟩ := HCC.out w2 hB2
    have HN := Lib.hid hn
    clear hn hm3' hm2' hm4 HMO c0 c1 c2 c3 f0 d0 hW0 hW1 hb0 hs0 HL0 hmo
    go_wp2_with fail
    refine (new_ref w2 n hn1 (by omega)).mono ?_
    rintro e w3 ⟨R, rfl, hR3, hB3⟩
    have hB13 := chain hB2 hB3
    have hBw3 := chain hb1 hB13
    obtain ⟨a, rfl⟩ : ∃ a : Nat, x1 = (a : Int) := ⟨x1.toNat, by unfold noPlace at hno; omega⟩
    obtain ⟨sz, rfl⟩ : ∃ sz : Nat, x2 = (sz : Int) := ⟨x2.toNat, by unfold noPlace at hno; omega⟩
    have hpl : 2 ≤ sz ∧ a + sz ≤ (St.new n).no.length := by unfold noPlace at hno; omega
    have hM := Lib.hid (pair_new a hP2 hR3 hB3)
    obtain ⟨y0, y1, y2, y3⟩ := HCC.out w3 hB13
    obtain ⟨rb, hrb⟩ : ∃ x, R.b = x := ⟨_, rfl⟩
    rw [hrb] at hM ⊢
    have hnl : (St.new n).no.length = n := by simp [St.new]
    have HF := Lib.hid (pair_format hM.out sz gen hpl.1 hpl.2 hgen (by simp [St.new]))
    have han : a < n := by omega
    have hlen0 := runOps_len (clearOps a) (St.new n)
    have hlo0 := runOps_lo (clearOps a) (St.new n)
    have hfc := fresh_clear han
    obtain ⟨st0, hst0⟩ : ∃ x, (runOps (St.new n) (clearOps a)).1 = x := ⟨_, rfl⟩
    have HS0 := Lib.hid hst0
    have HFC := Lib.hid hfc
    rw [hst0, hfc] at HF
    rw [hst0] at hlen0 hlo0
    have hlen : st0.no.length = n := hlen0.trans hnl
    have hlo : st0.lo.length ≤ 2 := by simpa [St.new, clearOps] using hlo0
    clear hP2 hR3 hB2 hB3 hno hnl hlen0 hlo0 hfc hst0
    go_wp2_with fail
    refine HF.out.mono ?_
    rintro e w4 ⟨hp, hk4⟩
    have hb4 : Below W1.heap.size w3 w4 := hk4.below hB13.size (fun k h => h.1)
    rcases hp with ⟨_, J, rfl, hM4⟩ | ⟨h0, _⟩
    case inr => exact absurd rfl h0
    have hwz := hBw3.size
    have hwz1 : w.heap.size < w3.heap.size := by have := hB13.size; omega
    have hB4 : Below W1.heap.size W1 w4 ∨ True := .inr trivial
    have hHF2 := pair_rformat hM4 sz gen hpl.1 (by rw [show (St.new n).no.length = n by simp [St.new]]; have := hpl.2; rw [show (St.new n).no.length = n by simp [St.new]] at this; exact this) hgen (by simp [St.new])
    rw [HS0.out, HFC.out] at hHF2
    have HF2 := Lib.hid hHF2
    clear hHF2 hB4
    have hc4 : ∀ i, w4.cell? ⟨w.heap.size, i, none⟩ = w3.cell? ⟨w.heap.size, i, none⟩ := fun i => hb4.cell (p := ⟨w.heap.size, i, none⟩) hs1
    rw [← hc4 1] at y1
    rw [← hc4 2] at y2
    rw [← hc4 3] at y3
    clear hc4 hk4 HF
    go_wp2_with fail
    refine HF2.out.mono ?_
    rintro e w5 ⟨hp, hk5⟩
    have hb5 : Below W1.heap.size w4 w5 := hk5.below (Nat.le_trans hB13.size hb4.size) (fun k h => h.1)
    rcases hp with ⟨_, J2, rfl, hM5⟩ | ⟨h0, _⟩
    case inr => exact absurd rfl h0
    have hc5 : ∀ i, w5.cell? ⟨w.heap.size, i, none⟩ = w4.cell? ⟨w.heap.size, i, none⟩ := fun i => hb5.cell (p := ⟨w.heap.size, i, none⟩) hs1
    rw [← hc5 1] at y1
    rw [← hc5 2] at y2
    rw [← hc5 3] at y3
    have hB5 : Below W1.heap.size W1 w5 := (hB13.trans hb4).trans hb5
    have han' : a ≤ 60 := by omega
    have HN1 := Lib.hid (fun w => (need_any (a : Int) (Wf.of (by omega) (by omega)) w).mono fun e w' (h : IntPost .i64 (needI a) w e w') => show e = .returned (.int .i64 (needI a)) ∧ w' = w from ⟨h.1, h.2.symm⟩)
    have HN2 := Lib.hid (fun w => (rneed_any (a : Int) (Wf.of (by omega) (by omega)) w).mono fun e w' (h : IntPost .i64 (needI a) w e w') => show e = .returned (.int .i64 (needI a)) ∧ w' = w from ⟨h.1, h.2.symm⟩)
    obtain ⟨nd, hnd⟩ : ∃ x, needI (a : Int) = x := ⟨_, rfl⟩
    rw [hnd] at HN1 HN2
    have HM5 := Lib.hid hM5
    clear hc5 hk5 HF2 hM5 hM4 hb4 hb5 hnd
    go_wp2_with fail
    (refine wp_region_quiet_lit (by kernel_rfl) (by kernel_rfl) ?_; (repeat (any_goals (first | go_big_quiet_step ((first | (go_at_call 12; exact Calls.quiet_of_same (HN1.out _)) | (go_at_call 25; exact Calls.quiet_of_same (HN2.out _)))) | quiet_step ((first | (go_at_call 12; exact Calls.quiet_of_same (HN1.out _)) | (go_at_call 25; exact Calls.quiet_of_same (HN2.out _)))) | (refine wpQuiet_step (fun K hK => ?_); go_simp; split <;> (refine hK _ ?_; clear hK K))))); all_goals (refine wpQuiet_nil ?_; intro _ hw'; obtain ⟨nq, hw''⟩ := hw'; subst hw''))
    go_wp2_with fail
    have HI0 := Lib.hid (show DInv W1 W1.heap.size n pb rb a 0 st0 (some (J, JSt.new a sz gen)) (some (J2, JSt.new a sz gen)) (w5.drewN nq) from ⟨HM5.out.below (bN nq (Below.refl _ _)), rfl, hlen, by omega, bN nq hB5, by have := HM5.out; obtain ⟨F, R, _, _, h1, _, _, _⟩ := this; exact h1.raw.base_le⟩)
    clear HM5 HN1 HN2 y0 y1 y2 y3 hM
    go_loopw [9, 10, 11] (fun v9 v10 v11 wr => ∃ (k : Nat) (st : St) (jo jo2 : PJ), k ≤ l.length ∧ v11 = .int .i64 k ∧ v9 = ptrV jo ∧ v10 = ptrV jo2 ∧ Hid (DInv W1 W1.heap.size n pb rb a k st jo jo2 wr)) (fun _ _ v11 _ => l.length - (intOf v11).toNat)
    case atStart => exact ⟨0, st0, _, _, by omega, rfl, rfl, rfl, HI0⟩
    case round =>
      clear HI0
      obtain ⟨k, st, jo, jo2, hk, rfl, rfl, rfl, hI⟩ := hrel
      by_cases hkl : k < l.length
      · have hkl2 : (k : Int) < (l.length : Int) := by omega
        obtain ⟨c, hcl⟩ := some_at hkl
        obtain ⟨hc2000, hc100⟩ := HLI.out.2 c (List.mem_of_getElem? hcl)
        have hBwr := chain hb1 hI.out.below
        obtain ⟨bo, off, ko, kcap, rfl, hbS, hbo, hwk, hwn, hsS, hnone, hks, z0, z1, z2, z3⟩ := op_get3 hl hcl
        rw [← hBwr.cell (p := ⟨bo, off + k * 4, none⟩) hbS] at z0
        rw [← hBwr.cell (p := ⟨bo, off + k * 4 + 1, none⟩) hbS] at z1
        rw [← hBwr.cell (p := ⟨bo, off + k * 4 + 2, none⟩) hbS] at z2
        rw [← hBwr.cell (p := ⟨bo, off + k * 4 + 3, none⟩) hbS] at z3
        have hk60 : k < 60 := by omega
        have HKS := Lib.hid (fun W (hb : Below w.heap.size w W) => show SlAt (Rd.int .i64) (· < w.heap.size) W ko c.2.2.2 from hks.old hb)
        have HBW := Lib.hid hBwr
        have HNO := Lib.hid hnone
        have hnd : needN c.2.2.1.size ≤ 33 := by unfold needN; omega
        have HND := Lib.hid hnd
        clear hcl hks hBwr hnone hnd
        obtain ⟨WB, hWB⟩ : ∃ x, wr.alloc (.cells #[.int .i64 c.1, .int .i64 c.2.1, .string c.2.2.1, .slice ko c.2.2.2.length kcap] 61) = x := ⟨_, rfl⟩
        have hbB : Below wr.heap.size wr WB := by rw [← hWB]; exact (Below.refl _ _).alloc (Nat.le_refl _) _
        have HM0 := Lib.hid (show DMid W1 n pb rb a (50 * k + 2) wr.heap.size ko kcap c st jo jo2 WB from DMid.start hI.out hbB (by rw [← hWB]; simp) (by rw [← hWB]; exact ⟨by simp [go_sem], by simp [go_sem], by simp [go_sem], by simp [go_sem]⟩))
        have HHB := Lib.hid hbB
        have HWB := Lib.hid hWB
        clear hbB hWB
        go_upto_block 2 with fail
        rw [HWB.out]
        clear z0 z1 z2 z3
        obtain ⟨b0, b1, b2, b3⟩ := HM0.out.box
        have hlo0 : st.lo.length ≤ 1000000 := by have := HM0.out.lo; omega
        go_cut [9, 10] from 91 to 268 (fun v9 v10 wx => ∃ (st' : St) (jo' jo2' : PJ), v9 = ptrV jo' ∧ v10 = ptrV jo2' ∧ Hid (DMid W1 n pb rb a (50 * k + 40) wr.heap.size ko kcap c st' jo' jo2' wx))
        case first =>
          as_aux_lemma =>
          by_cases h0 : c.1 = 0
          · have hd0 : (c.1 == 0) = true := by simpa using h0
            clear h0
            rcases HM0.out.eq.cases with ⟨rfl, rfl⟩ | ⟨J, J2, js, rfl, rfl⟩
            · simp only [ptrV]
              go_wp2_with fail
              (refine wp_region_quiet_lit (by kernel_rfl) (by kernel_rfl) ?_; (repeat (any_goals (first | go_big_quiet_step (fail) | quiet_step (fail) | (refine wpQuiet_step (fun K hK => ?_); go_simp; split <;> (refine hK _ ?_; clear hK K))))); all_goals (refine wpQuiet_nil ?_; intro _ hw'; obtain ⟨nq, hw''⟩ := hw'; subst hw''))
              go_wp2_with fail
              go_meet
              case rel => exact ⟨st, none, none, rfl, rfl, Lib.hid ((HM0.out.below' (bN nq (Below.refl _ _))).wide (by omega))⟩
            · simp only [ptrV]
              have hdr : Below WB.heap.size WB WB.drew := (Below.refl _ _).drew
              have HMd := Lib.hid (HM0.out.below' hdr)
              obtain ⟨er, her⟩ : ∃ x, appE st js c.2.2.1 = x := ⟨_, rfl⟩
              obtain ⟨stA, hstA⟩ : ∃ x, appS st js c.2.2.1 = x := ⟨_, rfl⟩
              obtain ⟨jsA, hjsA⟩ : ∃ x, appJ st js c.2.2.1 = x := ⟨_, rfl⟩
              have hA1 := appS_lo (st := st) (js := js) (s := c.2.2.1)
              have hA2 := appS_len (st := st) (js := js) c.2.2.1
              rw [hstA] at hA1 hA2
              have HA1 := Lib.hid hA1
              have HA2 := Lib.hid hA2
              have HP := Lib.hid (pair_append HMd.out.pair c.2.2.1 hsS hlo0)
              have HP2 := Lib.hid (fun (JA : JF) (wx : World) (hP : Pair W1.heap.size wx (fun k => k = wr.heap.size) pb stA (some (JA, jsA)) rb st a (some (J2, js))) => pair_rappend hP c.2.2.1 hsS hlo0)
              rw [her, hstA, hjsA] at HP HP2
              have HER := Lib.hid her
              have hbx : Below WB.heap.size WB WB := Below.refl _ _
              clear her hstA hjsA hA1 hA2 b0 b1 b3
              go_wp2_with fail
              go_region_held3 (fun w' => w'.cell? ⟨wr.heap.size, 2, none⟩ = some (.string c.2.2.1))
                (first | exact b2 | exact HMd.out.box.2.2.1 | exact (HMd.out.box.kept hK2 (fun hf => hf.2 rfl) HMd.out.lt).2.2.1 | exact (HMd.out.box.kept (kept2 hK2 hK3) (fun hf => hf.2 rfl) HMd.out.lt).2.2.1)
                (first
                  | (go_at_call 10; refine HP.out.mono ?_; rintro e w2 ⟨JA, hJA, rfl, hP2, hK2⟩)
                  | (go_at_call 26; refine (HP2.out JA _ hP2).mono ?_; rintro e w3 ⟨JB, hJB, rfl, hP3, hK3⟩))
              go_wp2_with fail
              go_meet
              case rel => exact ⟨stA, some (JA, jsA), some (JB, jsA), by rw [← hJA]; rfl, by rw [← hJB]; rfl, Lib.hid (HMd.out.after hP3 (kept2 hK2 hK3) rfl HA2.out (by have := HA1.out; have := HND.out; have := HM0.out.lo; omega))⟩
          · have hd0 : (c.1 == 0) = false := by simpa using h0
            clear h0
            by_cases h1 : c.1 = 1
            · have hd1 : (c.1 == 1) = true := by simpa using h1
              have HP := Lib.hid (pair_fuse HM0.out.pair c.2.1 hwn)
              clear h1
              go_wp2_with fail
              refine HP.out.mono ?_
              rintro e w2 ⟨rfl, hP2, hK2⟩
              obtain ⟨c0, c1, c2, c3⟩ := HM0.out.box.kept hK2 (fun hf => hf.2 rfl) HM0.out.lt
              have HP2 := Lib.hid (pair_rfuse hP2 c.2.1 hwn)
              clear b0 b1 b2 b3
              go_wp2_with fail
              refine HP2.out.mono ?_
              rintro e w3 ⟨rfl, hP3, hK3⟩
              go_wp2_with fail
              go_meet
              case rel => exact ⟨fuseS st c.2.1, jo, jo2, rfl, rfl, Lib.hid (HM0.out.after hP3 (kept2 hK2 hK3) HM0.out.eq rfl (by have := HM0.out.lo; show st.lo.length ≤ _; omega))⟩
            · have hd1 : (c.1 == 1) = false := by simpa using h1
              clear h1
              by_cases h4 : c.1 = 4
              · have hd4 : (c.1 == 4) = true := by simpa using h4
                have HP := Lib.hid (pair_put HM0.out.pair c.2.1 c.2.2.1 hsS (by omega))
                clear h4
                go_wp2_with fail
                refine HP.out.mono ?_
                rintro e w2 ⟨rfl, hP2, hK2⟩
                obtain ⟨c0, c1, c2, c3⟩ := HM0.out.box.kept hK2 (fun hf => hf.2 rfl) HM0.out.lt
                have HP2 := Lib.hid (pair_rput hP2 c.2.1 c.2.2.1 hsS hwn (by omega))
                clear b0 b1 b2 b3
                go_wp2_with fail
                refine HP2.out.mono ?_
                rintro e w3 ⟨rfl, hP3, hK3⟩
                go_wp2_with fail
                go_meet
                case rel => exact ⟨putS st c.2.1 c.2.2.1, jo, jo2, rfl, rfl, Lib.hid (HM0.out.after hP3 (kept2 hK2 hK3) HM0.out.eq (putS_len _ _ _) (by have := HM0.out.lo; have := put_lo (st := st) (x := c.2.1) (s := c.2.2.1); omega))⟩
              · have hd4 : (c.1 == 4) = false := by simpa using h4
                clear h4
                go_wp2_with fail
                go_meet
                case rel => exact ⟨st, jo, jo2, rfl, rfl, Lib.hid (HM0.out.wide (by omega))⟩
        case rest =>
          obtain ⟨st1, jo1, jo21, rfl, rfl, HM1⟩ := hcut
          obtain ⟨w6, rfl⟩ : ∃ x : World, x = wc := ⟨_, rfl⟩
          clear b0 b1 b2 b3 hlo0
          obtain ⟨b0, b1, b2, b3⟩ := HM1.out.box
          have hlo1 : st1.lo.length ≤ 1000000 := by have := HM1.out.lo; omega
          go_upto_if 152 with fail
          go_cut [] from 91 to 268 (fun wx => ∃ (st' : St), Hid (DMid W1 n pb rb a (50 * k + 40) wr.heap.size ko kcap c st' jo1 jo21 wx))
          case first =>
            as_aux_lemma =>
            by_cases h2 : c.1 = 2
            · have hd2 : (c.1 == 2) = true := by simpa using h2
              have hsk := HKS.out w6 (chain hb1 HM1.out.below)
              have hww : w.heap.size ≤ w6.heap.size := by have := HM1.out.below.size; have := hb1.size; omega
              have hW6 : W1.heap.size ≤ w6.heap.size := HM1.out.below.size
              have HSK0 := Lib.hid ((hsk.old (Below.refl _ _)).mono (S' := (· < w6.heap.size)) (fun k h _ => Nat.lt_of_lt_of_le h hww))
              have HSK1 := Lib.hid (fun wx (hb : Below W1.heap.size w6 wx) => show SlAt (Rd.int .i64) (· < W1.heap.size) wx ko c.2.2.2 from (hsk.mono (fun k h _ => Nat.lt_of_lt_of_le h hb1.size)).old hb)
              obtain ⟨i0, hi, hz0, hz1, hz2⟩ := info_parts int_row2
              have HI := Lib.hid hi; have HZ0 := Lib.hid hz0; have HZ1 := Lib.hid hz1; have HZ2 := Lib.hid hz2
              have hk100 : c.2.2.2.length ≤ 9223372036854775807 := by omega
              have hln := crash_len st1 c.2.2.2
              have HLN := Lib.hid hln
              have hnone := HNO.out
              have hwnn := HM1.out.pair
              have hltb := HM1.out.lt
              clear h2 hi hz0 hz1 hz2 hsk hln
              go_wp2_with (at_builtin; refine wpList_pushAll (Rd.int .i64) rfl _ _ 43 rfl w6.heap.size 3 i0 _ 8 Tryd.underlying43 HI.out HZ0.out HZ1.out HZ2.out rfl (by decide) (fun _ => True) _ [] rfl (own_made _ _ _ _ _ (Nat.le_refl _)) ko kcap c.2.2.2 rfl HNO.out ((HSK0.out.old ((Below.refl _ _).alloc (Nat.le_refl _) _)).apart (fun k hk => by cases hk; exact Nat.le_refl _)) int_ones (by unfold maxLen; simp; omega) (by simp; omega) (by simp) ?_; intro v2 w8 hO2 hK2 hw2; obtain ⟨ao2, cap2, rfl⟩ := hO2.form; rw [List.nil_append] at hO2; have hb2 : Below w6.heap.size w6 w8 := (Kept.push2 hK2).below (Nat.le_refl _) (fun k hk => hk); have hO3 : Lift.Own (Rd.int .i64) (fun _ => False) w8 w6.heap.size 3 (.slice ao2 c.2.2.2.length cap2) c.2.2.2 := hO2.flat int_flat (Kept.refl (fun _ => False) _) (fun _ _ h => h); have hsl := hO3.sl.2.mono (S' := fun k => w6.heap.size ≤ k) (fun b h _ => h.elim False.elim id); have HSL2 := Lib.hid hsl; clear hsl hO2 hO3 hK2 hw2)
              refine (pair_crash hwnn hb2 (by omega) ao2 cap2 c.2.2.2 _ (by simp) hk100 HSL2.out).mono ?_
              rintro e w9 ⟨rfl, hP9, hK9⟩
              have hK69 := kept2 ((Kept.refl _ w6).step hb2) hK9
              obtain ⟨d0, d1, d2, d3⟩ := HM1.out.box.kept hK69 (fun hf => hf.2 rfl) HM1.out.lt
              have HSK9 := Lib.hid (HSK1.out w9 (hK69.below hW6 (fun k h => h.1)))
              clear b0 b1 b2 b3
              go_wp2_with fail
              refine (pair_rcrash hP9 (by omega) ko kcap c.2.2.2 hk100 HSK9.out).mono ?_
              rintro e w10 ⟨rfl, hP10, hK10⟩
              go_wp2_with fail
              go_meet
              case rel => exact ⟨crashS st1 c.2.2.2, Lib.hid (HM1.out.after hP10 (kept2 hK69 hK10) HM1.out.eq HLN.out (by rw [crash_lo0]; omega))⟩
            · have hd2 : (c.1 == 2) = false := by simpa using h2
              clear h2
              go_wp2_with fail
              go_meet
              case rel => exact ⟨st1, HM1⟩
          case rest =>
            obtain ⟨st2, HM2⟩ := hcut
            obtain ⟨w7, rfl⟩ : ∃ x : World, x = wc := ⟨_, rfl⟩
            clear b0 b1 b2 b3 hlo1
            obtain ⟨b0, b1, b2, b3⟩ := HM2.out.box
            go_upto_region 29 with fail
            go_cut [170] from 91 to 268 (fun v wx => v = .bool (decide (c.1 = 2 ∨ c.1 = 3)) ∧ w7 = wx)
            case first =>
              as_aux_lemma =>
              by_cases h2 : c.1 = 2
              · have hd2 : (c.1 == 2) = true := by simpa using h2
                have HR := Lib.hid (show decide (c.1 = 2 ∨ c.1 = 3) = true by simp [h2])
                clear h2
                go_wp2_with fail
                go_meet
                case rel => exact ⟨by rw [HR.out], rfl⟩
              · have hd2 : (c.1 == 2) = false := by simpa using h2
                by_cases h3 : c.1 = 3
                · have hd3 : (c.1 == 3) = true := by simpa using h3
                  have HR := Lib.hid (show decide (c.1 = 2 ∨ c.1 = 3) = true by simp [h3])
                  clear h2 h3
                  go_wp2_with fail
                  go_meet
                  case rel => exact ⟨by rw [HR.out], rfl⟩
                · have hd3 : (c.1 == 3) = false := by simpa using h3
                  have HR := Lib.hid (show decide (c.1 = 2 ∨ c.1 = 3) = false by simp [h2, h3])
                  clear h2 h3
                  go_wp2_with fail
                  go_meet
                  case rel => exact ⟨by rw [HR.out], rfl⟩
            case rest =>
              obtain ⟨rfl, rfl⟩ := hcut
              obtain ⟨q, hq⟩ : ∃ q, decide (c.1 = 2 ∨ c.1 = 3) = q := ⟨_, rfl⟩
              rw [hq]
              clear hq b0 b1 b2 b3
              go_upto_if 170 with fail
              go_cut [9, 10] from 91 to 268 (fun v9 v10 wx => ∃ (st' : St) (jo' jo2' : PJ), v9 = ptrV jo' ∧ v10 = ptrV jo2' ∧ Hid (DMid W1 n pb rb a (50 * k + 42) wr.heap.size ko kcap c st' jo' jo2' wx))
              case first =>
                as_aux_lemma =>
                cases q with
                | false =>
                  go_wp2_with fail
                  go_meet
                  case rel => exact ⟨st2, jo1, jo21, rfl, rfl, Lib.hid (HM2.out.wide (by omega))⟩
                | true =>
                  have hln := openR_len st2 (JSt.new a sz gen)
                  have hol := openR_lo (st := st2) (js := JSt.new a sz gen)
                  have hlo2 : st2.lo.length ≤ 1000000 := by have := HM2.out.lo; omega
                  have hl2 : st2.no.length = n := HM2.out.len
                  have hasz : a + sz ≤ st2.no.length := by have := hpl.2; rw [show (St.new n).no.length = n by simp [St.new]] at this; omega
                  have hO := pair_open HM2.out.pair sz gen hpl.1 hasz hgen hlo2
                  have hO2 := fun (jx : PJ) (stx : St) (wx : World) (hP : Pair W1.heap.size wx (fun k => k = wr.heap.size) pb stx jx rb st2 a jo21) => pair_ropen hP sz gen hpl.1 hasz hgen hlo2
                  obtain ⟨er, her⟩ : ∃ x, (openR st2 (JSt.new a sz gen)).2 = x := ⟨_, rfl⟩
                  obtain ⟨stO, hstO⟩ : ∃ x, (openR st2 (JSt.new a sz gen)).1 = x := ⟨_, rfl⟩
                  obtain ⟨jsO, hjsO⟩ : ∃ x, openJ st2 (JSt.new a sz gen) = x := ⟨_, rfl⟩
                  rw [her, hstO, hjsO] at hO hO2
                  rw [hstO] at hln hol
                  have HO := Lib.hid hO
                  have HO2 := Lib.hid hO2
                  have HLN := Lib.hid hln
                  have HOL := Lib.hid hol
                  obtain ⟨y0, y1, y2, y3⟩ := HCC.out w7 HM2.out.below
                  have hwl : w.heap.size < w7.heap.size := by have := HM2.out.below.size; omega
                  clear hln hol hlo2 hl2 hasz hO hO2 her hstO hjsO
                  go_wp2_with fail
                  refine HO.out.mono ?_
                  rintro e w8 ⟨hp, hK8⟩
                  obtain ⟨y0, y1, y2, y3⟩ := HCC.out w8 (HM2.out.below.trans (hK8.below HM2.out.below.size (fun k h => h.1)))
                  rcases hp with ⟨h0, JA, rfl, hP8⟩ | ⟨h0, rfl, hP8⟩
                  · have HQ := Lib.hid (HO2.out _ _ _ hP8)
                    have HE0 := Lib.hid h0
                    clear h0
                    go_wp2_with fail
                    refine HQ.out.mono ?_
                    rintro e w9 ⟨hp, hK9⟩
                    rcases hp with ⟨_, JB, rfl, hP9⟩ | ⟨h1, _, _⟩
                    case inr => exact absurd HE0.out h1
                    go_wp2_with fail
                    go_meet
                    case rel => exact ⟨stO, some (JA, jsO), some (JB, jsO), rfl, rfl, Lib.hid (HM2.out.after hP9 (kept2 hK8 hK9) rfl HLN.out (by have := HOL.out; have := HM2.out.lo; omega))⟩
                  · have HQ := Lib.hid (HO2.out _ _ _ hP8)
                    have HE0 := Lib.hid h0
                    clear h0
                    go_wp2_with fail
                    refine HQ.out.mono ?_
                    rintro e w9 ⟨hp, hK9⟩
                    rcases hp with ⟨h1, _, _, _⟩ | ⟨_, rfl, hP9⟩
                    case inl => exact absurd h1 HE0.out
                    go_wp2_with fail
                    go_meet
                    case rel => exact ⟨stO, none, none, rfl, rfl, Lib.hid (HM2.out.after hP9 (kept2 hK8 hK9) trivial HLN.out (by have := HOL.out; have := HM2.out.lo; omega))⟩
              case rest =>
                obtain ⟨st3, jo3, jo23, rfl, rfl, HM3⟩ := hcut
                obtain ⟨w8, rfl⟩ : ∃ x : World, x = wc := ⟨_, rfl⟩
                go_upto_region 35 with fail
                go_cut [254] from 91 to 268 (fun v wx => v = .bool false ∧ Hid (DMid W1 n pb rb a (50 * k + 42) wr.heap.size ko kcap c st3 jo3 jo23 wx))
                case first =>
                  as_aux_lemma =>
                  rcases HM3.out.eq.cases with ⟨rfl, rfl⟩ | ⟨J, J2, js, rfl, rfl⟩
                  · simp only [ptrV]
                    (refine wp_region_quiet_lit (by kernel_rfl) (by kernel_rfl) ?_; (repeat (any_goals (first | go_big_quiet_step (fail) | quiet_step (fail) | (refine wpQuiet_step (fun K hK => ?_); go_simp; split <;> (refine hK _ ?_; clear hK K))))); all_goals (refine wpQuiet_nil ?_; intro _ hw'; obtain ⟨nq, hw''⟩ := hw'; subst hw''))
                    go_wp2_with fail
                    go_meet
                    case rel => exact ⟨rfl, Lib.hid (HM3.out.below' (bN nq (Below.refl _ _)))⟩
                  · simp only [ptrV]
                    have hbd := HM3.out.pair.bd
                    have hL59 : js.recs.length ≤ 59 := by have := HM3.out.len; omega
                    obtain ⟨ao, lcap, c4, hlc, hlm, hsl, hsl2, hltJ⟩ := pair_list2 HM3.out.pair
                    have HK := Lib.hid (fun wx (hb : Below w8.heap.size w8 wx) => show Below w8.heap.size w8 wx ∧ wx.cell? ⟨J2.b, 4, none⟩ = some (.slice ao js.recs.length lcap) from ⟨hb, (hb.cell (p := ⟨J2.b, 4, none⟩) hltJ).trans c4⟩)
                    have HS0 := Lib.hid (fun wx (hb : Below w8.heap.size w8 wx) => show SlAt Rd.str (· < wx.heap.size) wx ao js.recs from (hsl.old hb).here)
                    have HS2 := Lib.hid (fun wx (hb : Below w8.heap.size w8 wx) => show SlAt Rd.str (· < wx.heap.size) wx ao (js.recs.take 2) from (hsl2.old hb).here)
                    have HL1 := Lib.hid (fun wx (hb : Below w8.heap.size w8 wx) => pair_left (HM3.out.pair.below hb))
                    have HL2 := Lib.hid (fun wx (hb : Below w8.heap.size w8 wx) => pair_rleft (HM3.out.pair.below hb))
                    have HL3 := Lib.hid (fun wx (hb : Below w8.heap.size w8 wx) => pair_len (HM3.out.pair.below hb))
                    have HA1 := Lib.hid (fun wx (hb : Below w8.heap.size w8 wx) => show Calls Tryd.prog 17 #[.pointer (some ⟨J.b, 0, none⟩), .int .i64 100] wx (RowPost Rd.str 9 js.recs wx) by have := pair_all (HM3.out.pair.below hb) 100 (by omega); rwa [List.take_of_length_le (by omega)] at this)
                    have HA2 := Lib.hid (fun wx (hb : Below w8.heap.size w8 wx) => show Calls Tryd.prog 17 #[.pointer (some ⟨J.b, 0, none⟩), .int .i64 2] wx (RowPost Rd.str 9 (js.recs.take 2) wx) from pair_all (HM3.out.pair.below hb) 2 (by omega))
                    obtain ⟨T, hT⟩ : ∃ T, js.recs.take 2 = T := ⟨_, rfl⟩
                    have hTl : T.length = min 2 js.recs.length := by rw [← hT, List.length_take]
                    rw [hT] at HA2 HS2
                    obtain ⟨L, hL⟩ : ∃ L, js.recs = L := ⟨_, rfl⟩
                    rw [hL] at HK HS0 HL3 HA1 hL59 hlc hTl
                    have hT1 : T.length ≤ lcap := by omega
                    have hT2 : T.length ≤ L.length := by omega
                    unfold maxLen at hlm
                    have hq : ∀ w, (Builtin.min_ #[3, 3] 3 #[.int .i64 2, .int .i64 L.length]).run Tryd.prog w = .ok (.int .i64 T.length) w := fun w => by
                      have e : (T.length : Int) = min 2 (L.length : Int) := by omega
                      simp [Builtin.min_, Builtin.min2, go_sem, e]; split <;> omega
                    obtain ⟨li, hli⟩ : ∃ x, leftI js = x := ⟨_, rfl⟩
                    rw [hli] at HL1 HL2
                    have hb8 := Below.refl w8.heap.size w8
                    clear hbd hsl hsl2 hT hL hli hTl c4
                    go_wp2_with fail
                    go_region_held3 (fun wx => Below w8.heap.size w8 wx ∧ wx.cell? ⟨J2.b, 4, none⟩ = some (.slice ao L.length lcap))
                      (first | assumption | exact HK.out _ (by assumption) | exact HK.out _ (chain (‹Below w8.heap.size w8 _ ∧ _›).1 (by assumption)) | exact HK.out _ (Below.drew (by assumption)))
                      (first
                        | (go_at_call 9; refine (HL1.out _ (‹Below w8.heap.size w8 _ ∧ _›).1).mono ?_; rintro e wa ⟨rfl, hba⟩)
                        | (go_at_call 32; refine (HL2.out _ (‹Below w8.heap.size w8 _ ∧ _›).1).mono ?_; rintro e wb ⟨rfl, hbb⟩)
                        | (go_at_call 11; refine (HL3.out _ (‹Below w8.heap.size w8 _ ∧ _›).1).mono ?_; rintro e wd ⟨rfl, hbd⟩)
                        | (go_at_call 17; first
                          | ((with_reducible refine (HA1.out _ (‹Below w8.heap.size w8 _ ∧ _›).1).mono ?_); rintro e we ⟨ae, ce, rfl, hOe, hbe⟩; have HOe := Lib.hid hOe.here; clear hOe)
                          | ((with_reducible refine (HA2.out _ (‹Below w8.heap.size w8 _ ∧ _›).1).mono ?_); rintro e wg ⟨ag, cg, rfl, hOg, hbg⟩; have HOg := Lib.hid hOg.here; clear hOg))
                        | (go_at_call 16; first
                          | ((with_reducible refine (same_b ag ao cg _ T.length T T wg HOg.out (HS2.out _ (‹Below w8.heap.size w8 _ ∧ _›).1) (by omega) rfl true (decide_eq_true rfl)).mono ?_); rintro e wh ⟨rfl, hbh⟩)
                          | ((with_reducible refine (same_b ae ao ce _ L.length L L we HOe.out (HS0.out _ (‹Below w8.heap.size w8 _ ∧ _›).1) (by omega) rfl true (decide_eq_true rfl)).mono ?_); rintro e wf ⟨rfl, hbf⟩)))
                    all_goals
                      go_wp2_with fail
                      go_meet
                      case rel => exact ⟨rfl, Lib.hid (HM3.out.below' (‹Below w8.heap.size w8 _ ∧ _›).1)⟩
                case rest =>
                  obtain ⟨rfl, HM4⟩ := hcut
                  obtain ⟨w9, rfl⟩ : ∃ x : World, x = wc := ⟨_, rfl⟩
                  have hlo4 : st3.lo.length ≤ 1000000000 := by have := HM4.out.lo; omega
                  have HI1 := Lib.hid (fun wx (hb : Below w9.heap.size w9 wx) => pair_image (HM4.out.pair.below hb))
                  have HI2 := Lib.hid (fun wx (hb : Below w9.heap.size w9 wx) => pair_rimage (HM4.out.pair.below hb) hlo4)
                  have HI3 := Lib.hid (fun wx (hb : Below w9.heap.size w9 wx) => pair_down (HM4.out.pair.below hb))
                  have HK := Lib.hid (fun wx (hb : Below w9.heap.size w9 wx) => show Below w9.heap.size w9 wx ∧ wx.cell? ⟨rb, 4, none⟩ = some (.bool st3.off) from ⟨hb, pair_off (HM4.out.pair.below hb)⟩)
                  have hb9 := Below.refl w9.heap.size w9
                  obtain ⟨im, him⟩ : ∃ x, imageB st3.no = x := ⟨_, rfl⟩
                  rw [him] at HI1 HI2
                  clear him hlo4
                  go_wp2_with fail
                  go_region_held3 (fun wx => Below w9.heap.size w9 wx ∧ wx.cell? ⟨rb, 4, none⟩ = some (.bool st3.off))
                    (first | exact HK.out _ (by assumption) | exact HK.out _ (chain (‹Below w9.heap.size w9 _ ∧ _›).1 (by assumption)) | exact HK.out _ (Below.drew (by assumption)))
                    (first
                      | (go_at_call 13; refine (HI1.out _ (‹Below w9.heap.size w9 _ ∧ _›).1).mono ?_; rintro e w10 ⟨rfl, hb10⟩)
                      | (go_at_call 33; refine (HI2.out _ (‹Below w9.heap.size w9 _ ∧ _›).1).mono ?_; rintro e w11 ⟨rfl, hb11⟩)
                      | (go_at_call 18; refine (HI3.out _ (‹Below w9.heap.size w9 _ ∧ _›).1).mono ?_; rintro e w12 ⟨rfl, hb12⟩))
                  all_goals
                    go_wp2_with fail
                    go_roundw
                    case measure => simp [intOf]; omega
                    case rel => exact ⟨k + 1, st3, jo3, jo23, by omega, by go_num, rfl, rfl, Lib.hid (((HM4.out.below' (‹Below w9.heap.size w9 _ ∧ _›).1).wide (by omega)).fin)⟩
      · obtain rfl : k = l.length := by omega
        have HP := Lib.hid (pair_image hI.out.pair)
        have hlo9 : st.lo.length ≤ 1000000000 := by have := hI.out.lo; omega
        go_wp2_with fail
        refine HP.out.mono ?_
        rintro e w8 ⟨rfl, hb8⟩
        have HP2 := Lib.hid (pair_rimage (hI.out.pair.below hb8) hlo9)
        go_wp2_with fail
        refine HP2.out.mono ?_
        rintro e w9 ⟨rfl, hb9⟩
        go_wp2_with fail
        go_ret
        exact ⟨rfl, chain (chain (chain hb1 hI.out.below) hb8) hb9⟩
  · have e1 : decide (lightJ l) = false := by simpa using hlight
    rw [e1] at HLT
    have HL0 := Lib.hid (HLT.out (w.alloc (.cells #[.int .i64 x0, .int .i64 x1, .int .i64 x2, .int .u32 gen] 49)) ((Below.refl _ _).alloc (Nat.le_refl _) _))
    clear HLT hlight e1
    go_enter Tryd.func6, Tryd.ntmps6
    go_wp2_with (first | (go_at_call 20; refine HL0.out.mono ?_; rintro e w1 ⟨rfl, rfl⟩) | fail)
    go_ret
    exact ⟨rfl, (Below.refl _ _).alloc (Nat.le_refl _) _⟩
end Go.Proofs.YtaljgcdjkmpljaaDoor
