/- KeepWhole: the law's walk. -/
import Derived.Test.YtdebfnlnpfienaaGreatDoorKwSteps
import Derived.Deep.CutBlock
import Derived.Deep.CutRange
namespace Go.Proofs.YtdebfnlnpfienaaGreatDoor
open Go.RowKit Lift Go.Maps
set_option linter.unusedSimpArgs false
set_option linter.unusedVariables false

def zzL : List KW := [(⟨#[122, 122]⟩, ⟨#[]⟩, true)]
set_option maxHeartbeats 8000000 in
set_option maxRecDepth 100000 in
theorem law_keepwhole (ao : Option Addr) (cap : Nat) (l : List (List KW)) (la : Option Addr) (lc : Nat) (last : List KW) (cs : Array Value) (pc : List Int × List Int) (w : World) (h : SlArg rKw.slice w ao cap l) (h2 : SlArg rKw w la lc last) (hc : rCutW.rel (· < w.heap.size) w cs.toList pc) :
    Calls Tryz.prog 4 #[.slice ao l.length cap, .slice la last.length lc, .agg cs] w (TruePost w) := by
  have hl := h.at'
  have hmx := h.max
  have hle := h.le
  have hal := h2.at'
  have hamx := h2.max
  have hale := h2.le
  unfold maxLen at hmx
  obtain ⟨fo, fc, ko, kc, rfl, hfl, hkl, hfn, hkn⟩ := cutw_arg hc
  obtain ⟨fs, Kp⟩ := pc
  simp only at hfl hkl hfn hkn ⊢
  have hann := h2.nil
  clear h h2 hc
  unfold maxLen at hfn hkn
  obtain ⟨W0, hW0⟩ : ∃ W0, w.alloc (.cells #[.slice fo fs.length fc, .slice ko Kp.length kc] 45) = W0 := ⟨_, rfl⟩
  have hb0 : Below w.heap.size w W0 := by rw [← hW0]; exact (Below.refl _ _).alloc (Nat.le_refl _) _
  have c0 : W0.cell? ⟨w.heap.size, 0, none⟩ = some (.slice fo fs.length fc) := by rw [← hW0]; simp [go_sem]
  have c1 : W0.cell? ⟨w.heap.size, 1, none⟩ = some (.slice ko Kp.length kc) := by rw [← hW0]; simp [go_sem]
  have hz0 : W0.heap.size = w.heap.size + 1 := by rw [← hW0]; simp
  obtain ⟨i0, hi, hzi0, hz1, hz2⟩ := info_parts kw_info
  have HI0 := Lib.hid hi; have HZ0 := Lib.hid hzi0; have HZ1 := Lib.hid hz1; have HZ2 := Lib.hid hz2
  clear hi hzi0 hz1 hz2
  have HWk := Lib.hid (fun w => works_any w)
  go_enter Tryz.func4, Tryz.ntmps4
  go_wp2_with fail
  refine (HWk.out _).mono ?_
  rintro e w1 ⟨rfl, hb1⟩
  have hbw1 : Below w.heap.size w w1 := chain hb0 hb1
  have hz1 : w.heap.size + 1 ≤ w1.heap.size := by have := hb1.size; omega
  have d0 := (hb1.cell (p := ⟨w.heap.size, 0, none⟩) (by show w.heap.size < W0.heap.size; omega)).trans c0
  have d1 := (hb1.cell (p := ⟨w.heap.size, 1, none⟩) (by show w.heap.size < W0.heap.size; omega)).trans c1
  have HNw := Lib.hid (new_any w1 80 (by omega) (by omega))
  have HW1 := Lib.hid hbw1
  have HW0 := Lib.hid hW0
  clear hb1 hb0 c0 c1 hbw1 HWk hW0
  have HSm := Lib.hid (fun wx (hb : Below w.heap.size w wx) => some_any la lc last wx ((hal.old hb).mono (fun b hb hlt => hlt)) (Nat.le_trans hale hamx))
  go_wp2_with fail
  refine HNw.out.mono ?_
  rintro e w2 ⟨F0, rfl, hR0, hb2⟩
  have e0 := (hb2.cell (p := ⟨w.heap.size, 0, none⟩) (by show w.heap.size < w1.heap.size; omega)).trans d0
  have e1 := (hb2.cell (p := ⟨w.heap.size, 1, none⟩) (by show w.heap.size < w1.heap.size; omega)).trans d1
  have hbw2 : Below w.heap.size w w2 := chain HW1.out hb2
  have HR0 := Lib.hid hR0
  clear d0 d1 HNw hR0
  by_cases hf0 : fs.length = 0
  case pos =>
    have hd3 : ((fs.length : Int) == 0) = true := by rw [hf0]; rfl
    go_wp2_with fail
    go_ret
    exact ⟨rfl, hbw2⟩
  have hd3 : ((fs.length : Int) == 0) = false := by simp; intro h; rw [h] at hf0; exact hf0 rfl
  by_cases hk300 : Kp.length ≤ 300
  case neg =>
    have hd2 : decide ((300 : Int) < (Kp.length : Int)) = true := by simp; omega
    go_wp2_with fail
    go_ret
    exact ⟨rfl, hbw2⟩
  have hd2 : decide ((300 : Int) < (Kp.length : Int)) = false := by simp; omega
  have HSm2 := Lib.hid (HSm.out w2 hbw2)
  clear HSm
  go_wp2_with fail
  refine HSm2.out.mono ?_
  rintro e w3 ⟨sb, rfl, hsb, hb3⟩
  have f0 := (hb3.cell (p := ⟨w.heap.size, 0, none⟩) (by have := hb2.size; show w.heap.size < w2.heap.size; omega)).trans e0
  have f1 := (hb3.cell (p := ⟨w.heap.size, 1, none⟩) (by have := hb2.size; show w.heap.size < w2.heap.size; omega)).trans e1
  have hbw3 : Below w.heap.size w w3 := chain hbw2 hb3
  cases sb with
  | false =>
    go_wp2_with fail
    go_ret
    exact ⟨rfl, hbw3⟩
  | true =>
  have hlast5 : last.length ≤ 502 := hsb rfl
  have HFm := Lib.hid (format80 (HR0.out.below hb3))
  have HB13 := Lib.hid (show Below w1.heap.size w1 w3 from chain hb2 hb3)
  have HIn := Lib.hid HR0.out.ge
  have HBw3 := Lib.hid hbw3
  have hz3 := hb3.size
  have hz2 := hb2.size
  clear hsb HSm2 e0 e1 hb3 hbw3 hbw2 hd3 hd2 HR0 hb2
  go_wp2_with fail
  refine HFm.out.mono ?_
  rintro e w4 ⟨F, J, K, rfl, hK, hFb, hkf, hkp⟩
  have hB4 : Below w1.heap.size w1 w4 := HB13.out.trans (hkp.below (by omega) (fun b hb => HIn.out b hb))
  have h0 := (hB4.cell (p := ⟨w.heap.size, 0, none⟩) (by show w.heap.size < w1.heap.size; omega))
  have HB := Lib.hid hB4
  have hC1 := HB13.out
  have HD := Lib.hid (show w1.cell? ⟨w.heap.size, 0, none⟩ = some (.slice fo fs.length fc) ∧ w1.cell? ⟨w.heap.size, 1, none⟩ = some (.slice ko Kp.length kc) from
    ⟨(hC1.cell (p := ⟨w.heap.size, 0, none⟩) (by show w.heap.size < w1.heap.size; omega)).symm.trans f0, (hC1.cell (p := ⟨w.heap.size, 1, none⟩) (by show w.heap.size < w1.heap.size; omega)).symm.trans f1⟩)
  obtain ⟨pb, hpb⟩ : ∃ x, F0.b = x := ⟨_, rfl⟩
  rw [hpb] at hFb
  rw [hpb]
  have HLK := Lib.hid (show LoopK w1.heap.size w4 F (formR (St.new 80)).1 J (JSt.new 2 39 0) K KSt.new pb 0 from ⟨hK, hFb, form80.2, Nat.le_refl _, by decide +kernel, Nat.le_refl _⟩)
  clear HFm hK hFb hkf hkp hB4 h0 hC1 f0 f1 HIn hpb HB13
  obtain ⟨st0, hst0⟩ : ∃ x, (formR (St.new 80)).1 = x := ⟨_, rfl⟩
  rw [hst0] at HLK
  clear hst0
  go_upto_block 0 with fail
  go_cut [] from 67 (fun wx => ∃ (i : Nat) (F : Fp) (st : St) (J : JF) (js : JSt) (ks : KSt), i ≤ 12 ∧ Hid (LoopK w1.heap.size wx F st J js K ks pb i) ∧ Hid (Below w1.heap.size w1 wx))
  case first =>
    as_aux_lemma =>
    go_wp2_with fail
    go_loopw [10] (fun v wr => ∃ (i : Nat) (F : Fp) (st : St) (J : JF) (js : JSt) (ks : KSt), i ≤ l.length ∧ i ≤ 12 ∧ v = .int .i64 i ∧ Hid (LoopK w1.heap.size wr F st J js K ks pb i) ∧ Hid (Below w1.heap.size w1 wr)) (fun v _ => l.length - (intOf v).toNat)
    case atStart => exact ⟨0, F, st0, J, _, KSt.new, Nat.zero_le _, by omega, rfl, HLK, HB⟩
    case round =>
      clear HLK HB
      obtain ⟨i, F, st, J, js, ks, hi, hi12, rfl, HLK, HB⟩ := hrel
      have HBw : Hid (Below w.heap.size w wr) := Lib.hid (HW1.out.trans (HB.out.mono (by omega)))
      have hzw := HB.out.size
      by_cases hgo : i < l.length ∧ i < 12
      · obtain ⟨hil, hi2⟩ := hgo
        have hil2 : (i : Int) < (l.length : Int) := by omega
        have hi22 : (i : Int) < 12 := by omega
        obtain ⟨li, hli⟩ := some_at hil
        obtain ⟨b, off, cs, rfl, hbw0, hlt0, ⟨a2, c2, rfl, hle2, hmx2, hnn2, hsl0⟩, hc0⟩ := hl.get hli
        have y0w := hc0 0 _ rfl
        simp only [Rd.slice, Nat.mul_one, Nat.add_zero] at y0w
        have y0 := (HBw.out.cell (p := ⟨b, off + i, none⟩) hbw0).trans y0w
        have hlt : b < wr.heap.size := by omega
        have hsl := hsl0.old HBw.out
        have HY := Lib.hid y0w
        have HSL := Lib.hid hsl0
        have HSm := Lib.hid (some_any a2 c2 li wr (hsl.mono (fun b hb hlt => hlt)) (Nat.le_trans hle2 hmx2))
        clear hc0 hl y0w hsl0
        go_wp2_with fail
        refine HSm.out.mono ?_
        rintro e wa ⟨sb, rfl, hsb, hba⟩
        have hbaw : Below w1.heap.size w1 wa := HB.out.trans (hba.mono (by omega))
        have hgn := HLK.out.gn; have hcn := HLK.out.cn
        cases sb with
        | false =>
          have HBA := Lib.hid hbaw
          have HLA : Hid (LoopK w1.heap.size wa F st J js K ks pb (i + 1)) := Lib.hid { HLK.out with kr := HLK.out.kr.below hba, gn := by omega, cn := by omega }
          go_wp2_with fail
          go_roundw
          case measure => simp [intOf]; omega
          case rel => exact ⟨i + 1, F, st, J, js, ks, by omega, by omega, by go_num, HLA, HBA⟩
        | true =>
          have hli5 : li.length ≤ 502 := hsb rfl
          have y1 := (hba.cell (p := ⟨b, off + i, none⟩) hlt).trans y0
          have hslb := hsl.below hba
          have hza := hba.size
          have hbwa : b < wa.heap.size := by omega
          clear HSm hsb
          go_wp2_with (first | (at_builtin; refine wpList_pushAll rKw rfl _ _ 32 rfl wa.heap.size 50 i0 _ 40 Tryz.underlying32 HI0.out HZ0.out HZ1.out HZ2.out rfl (by decide) (fun _ => True) _ [] (by rfl) (own_made rKw _ wa wa.heap.size _ (Nat.le_refl _)) a2 c2 li rfl hnn2 ((hslb.below ((Below.refl _ _).alloc (Nat.le_refl _) _)).mono (fun b hb _ => ⟨trivial, fun e => by simp [Value.ownBlock] at e; omega⟩)) kw_ones (by unfold maxLen; simp; omega) (by simp; omega) (by simp) ?_; intro v9 wc hO9 hK9 hw9))
          rw [List.nil_append] at hO9
          obtain ⟨a9, c9, rfl⟩ := hO9.form
          have hbc : Below wa.heap.size wa wc := ((Below.refl _ wa).alloc (Nat.le_refl _) _).trans (hK9.below (by simp) (fun k hk => by simp [Value.ownBlock] at hk; omega))
          have hS9 : SlAt rKw (fun k => wa.heap.size ≤ k ∧ k < wc.heap.size) wc a9 li := by
            rcases hO9.here with rfl | ⟨q, o, rfl, _, hq, hc⟩
            · exact .inl rfl
            · exact .inr ⟨q, o, rfl, ⟨(hO9.lt q rfl).1, hq⟩, hq, fun k c hk => by obtain ⟨cs, h1, h2⟩ := hc k c hk; exact ⟨cs, kw_flat _ _ _ _ _ _ h1, h2⟩⟩
          have hac := chain hba hbc
          have HLc : Hid (LoopK w1.heap.size wc F st J js K ks pb i) := Lib.hid { HLK.out with kr := HLK.out.kr.below hac }
          have hkin := HLK.out.kr.inb
          have HCo := Lib.hid (commit_any HLc.out.kr (by rw [HLK.out.kl.len]; omega) (by rw [HLK.out.lo]; simp) a9 c9 li (hS9.mono (fun k hk _ => ⟨fun hf => by have := hkin k hf; omega, hk.2⟩)) (by omega) (by omega))
          have HBc := Lib.hid (show Below w1.heap.size w1 wc from HB.out.trans (hac.mono (by omega)))
          clear hO9 hK9 hw9 hS9 hkin hslb hsl y0 y1
          go_wp2_with fail
          refine HCo.out.mono ?_
          intro e wd hp
          obtain ⟨rfl, F', st', J', js', ks', hLd, hBd⟩ := HLc.out.com (by omega) hli5 hp
          have HLd := Lib.hid hLd
          have HBd := Lib.hid (HBc.out.trans hBd)
          clear HCo hp hLd hBd
          go_wp2_with fail
          go_roundw
          case measure => simp [intOf]; omega
          case rel => exact ⟨i + 1, F', st', J', js', ks', by omega, by omega, by go_num, HLd, HBd⟩
      · have hstop : (i = l.length) ∨ (i < l.length ∧ i = 12) := by omega
        clear hgo
        rcases hstop with rfl | ⟨hil, rfl⟩
        · go_wp2_with fail
          go_meet
          case rel => exact ⟨_, F, st, J, js, ks, hi12, HLK, HB⟩
        · have hil2 : (12 : Int) < (l.length : Int) := by omega
          go_wp2_with fail
          go_meet
          case rel => exact ⟨12, F, st, J, js, ks, hi12, HLK, HB⟩
  case rest =>
  clear HLK HB
  obtain ⟨i, F, st, J, js, ks, hi12, HLK, HB⟩ := hcut
  obtain ⟨w5, rfl⟩ : ∃ x : World, x = wc := ⟨_, rfl⟩
  have HBw : Hid (Below w.heap.size w w5) := Lib.hid (HW1.out.trans (HB.out.mono (by omega)))
  have hzw := HB.out.size
  have hkv9 : ks.kv.length < 1000 := by have := HLK.out.kl.few (by omega); omega
  have HP1 := Lib.hid (pairs_any HLK.out.kr hkv9)
  clear hl HBw3
  go_wp2_with fail
  refine HP1.out.mono ?_
  rintro e w6 ⟨v11, rfl, hO11, hb6⟩
  obtain ⟨a11, c11, rfl⟩ := hO11.form
  have HS11 := Lib.hid (own_sl hO11)
  have hc11 := hO11.cap.2.2.2
  have HLK6 : Hid (LoopK w1.heap.size w6 F st J js K ks pb i) := Lib.hid { HLK.out with kr := HLK.out.kr.below hb6 }
  have HB6 := Lib.hid (show Below w1.heap.size w1 w6 from HB.out.trans (hb6.mono (by omega)))
  have hz6 := hb6.size
  clear hO11 HP1 hb6
  obtain ⟨x0, hx0⟩ := some_at (l := fs) (k := 0) (by omega)
  obtain ⟨bf, of, rfl, hfS, hfb, hfc, hwf⟩ := intw_get hfl hx0
  rw [Nat.add_zero] at hfc
  have hBw6 : Below w.heap.size w w6 := HW1.out.trans (HB6.out.mono (by omega))
  have hfc6 := (hBw6.cell (p := ⟨bf, of, none⟩) hfS).trans hfc
  have f0 := (HB6.out.cell (p := ⟨w.heap.size, 0, none⟩) (by show w.heap.size < w1.heap.size; omega)).trans HD.out.1
  have f1 := (HB6.out.cell (p := ⟨w.heap.size, 1, none⟩) (by show w.heap.size < w1.heap.size; omega)).trans HD.out.2
  have hf0i : (0 : Int) < (fs.length : Int) := by omega
  have hbf6 : bf < w6.heap.size := by omega
  obtain ⟨m0, hm1, hm2, hm3, hm4⟩ := mod_index x0 90 (by omega) (by omega)
  have hm2' : IntKind.u64.wrap 90 = 90 := hm2
  have hm3' : (IntKind.u64.wrap x0).tmod 90 = (m0 : Int) := hm3
  have hq : (-9223372036854775808 ≤ (m0 : Int) ∧ (m0 : Int) ≤ 9223372036854775807) ∧ max (m0 : Int) (-1) = (m0 : Int) := by clear hm2 hm3 hm4 hm2' hm3' hfn hkn; omega
  have HFU := Lib.hid (kfuse HLK6.out.kr m0 hq HLK6.out.kl.jn.hf.off)
  rw [HLK6.out.fb] at HFU
  clear hq
  have HFS0 := Lib.hid hfS
  have HNE := Lib.hid (And.intro hz0 (And.intro hz1 (And.intro hz2 (And.intro hz3 (And.intro hzw hz6)))))
  have HMX := Lib.hid (And.intro hmx (And.intro hle (And.intro hamx (And.intro hale (And.intro hfn hkn)))))
  have hi12' := Lib.hid hi12
  clear hm2 hm3 hx0 hBw6 hz0 hz1 hz2 hz3 hzw hz6 hmx hle hamx hale hfn hkn hi12 hkv9 hbf6 hfS
  go_wp2_with fail
  refine HFU.out.mono ?_
  rintro e w7 ⟨rfl, F7, J7, hK7, hF7, hf7, hk7⟩
  obtain ⟨hz0, hz1, hz2, hz3, hzw, hz6⟩ := HNE.out
  obtain ⟨hmx, hle, hamx, hale, hfn, hkn⟩ := HMX.out
  have hi12 := hi12'.out
  have HKL := Lib.hid (HLK6.out.kl.wf (m0 : Int))
  have hlo7 : (wf st (m0 : Int) false).lo = [] := HLK6.out.lo
  have HGN := Lib.hid (show ks.gen ≤ 12 from Nat.le_trans HLK6.out.gn hi12)
  have HCN := Lib.hid (show ks.cnt ≤ 6100 by have := HLK6.out.cn; omega)
  have HB7 := Lib.hid (show Below w1.heap.size w1 w7 from HB6.out.trans (hk7.below (by omega) (fun k hk => HLK6.out.kr.ge k hk)))
  have hkin5 := HLK.out.kr.inb
  have HIN := Lib.hid (show ∀ k, kfoot F7 J7 K k → k < w5.heap.size ∨ w6.heap.size ≤ k from fun k hk => (hf7 k hk).imp (fun h => hkin5 k h) id)
  have HS11' := Lib.hid (show SlAt rKV (fun b => w5.heap.size ≤ b ∧ b < w6.heap.size) w7 a11 ks.kv from
    (HS11.out.mono (S' := fun b => w5.heap.size ≤ b ∧ b < w6.heap.size) (fun k h1 h2 => ⟨h1, h2⟩)).kept hk7 (fun k hk _ hf => by have := hkin5 k hf; omega))
  have HX7 := Lib.hid (show Below w.heap.size w w7 from HW1.out.trans (HB7.out.mono (by omega)))
  have hal7 := hal.old HX7.out
  have hz7 := hk7.size
  have HK7 := Lib.hid hK7
  have HF7 := Lib.hid (hF7.trans HLK6.out.fb)
  obtain ⟨stf, hstf⟩ : ∃ x, wf st (m0 : Int) false = x := ⟨_, rfl⟩
  rw [hstf] at HKL HK7 hlo7
  clear HFU hK7 hF7 hf7 hk7 HLK6 HLK HB6 HB HNE HMX hi12' HS11 hkin5 hstf hfc6 f0 f1 hm1 hm2' hm3' hm4 HBw
  go_wp2_with (first | (at_builtin; refine wpList_pushAll rKw rfl _ _ 32 rfl w7.heap.size 50 i0 _ 40 Tryz.underlying32 HI0.out HZ0.out HZ1.out HZ2.out rfl (by decide) (fun _ => True) _ [] (by rfl) (own_made rKw _ w7 w7.heap.size _ (Nat.le_refl _)) la lc last rfl hann ((hal7.below ((Below.refl _ _).alloc (Nat.le_refl _) _)).mono (fun b hb _ => ⟨trivial, fun e => by simp [Value.ownBlock] at e; omega⟩)) kw_ones (by unfold maxLen; simp; omega) (by simp; omega) (by simp) ?_; intro v9 w8 hO9 hK9 hw9))
  rw [List.nil_append] at hO9
  obtain ⟨a9, c9, rfl⟩ := hO9.form
  have hb8 : Below w7.heap.size w7 w8 := ((Below.refl _ w7).alloc (Nat.le_refl _) _).trans (hK9.below (by simp) (fun k hk => by simp [Value.ownBlock] at hk; omega))
  have hS9 : SlAt rKw (fun k => w7.heap.size ≤ k ∧ k < w8.heap.size) w8 a9 last := by
    rcases hO9.here with rfl | ⟨q, o, rfl, _, hq, hc⟩
    · exact .inl rfl
    · exact .inr ⟨q, o, rfl, ⟨(hO9.lt q rfl).1, hq⟩, hq, fun k c hk => by obtain ⟨cs, h1, h2⟩ := hc k c hk; exact ⟨cs, kw_flat _ _ _ _ _ _ h1, h2⟩⟩
  have HK8 := Lib.hid (HK7.out.below hb8)
  have hkin := HK7.out.inb
  have hCN := HCN.out
  have HCo := Lib.hid (commit_any HK8.out (by rw [HKL.out.len]; omega) (by rw [hlo7]; simp) a9 c9 last (hS9.mono (fun k hk _ => ⟨fun hf => by have := hkin k hf; omega, hk.2⟩)) (by omega) (by omega))
  have hGN := HGN.out
  have HFell := Lib.hid (HKL.out.comFell (by omega) last Kp)
  have HKR := Lib.hid (show (comR stf js ks last).er = 0 → KL 80 (comR stf js ks last).st (comR stf js ks last).js (comR stf js ks last).ks ∧ (comR stf js ks last).ks.gen ≤ 13 from fun he => by
    rcases HKL.out.com (by omega) (by omega) (B := 1000) (by omega) (by omega) last with ⟨er, h5, h1⟩ | ⟨_, _, _, h4, h5, _⟩ | ⟨h5, _⟩
    · rw [h1] at he; simp only at he; omega
    · exact ⟨h4, by omega⟩
    · omega)
  have hlo := com_lo (st := stf) (js := js) (ks := ks) last
  rw [hlo7] at hlo
  have HLO := Lib.hid (show (comR stf js ks last).st.lo.length ≤ 50000 by simp at hlo; omega)
  have HWN := Lib.hid (HKL.out.few (by omega))
  have HS8 := Lib.hid (HS11'.out.below hb8)
  have HB8 := Lib.hid (show Below w1.heap.size w1 w8 from HB7.out.trans (hb8.mono (by omega)))
  have HI8 := Lib.hid (show ∀ k, kfoot F7 J7 K k → k < w5.heap.size ∨ w6.heap.size ≤ k from HIN.out)
  obtain ⟨R, hR⟩ : ∃ R, comR stf js ks last = R := ⟨_, rfl⟩
  rw [hR] at HCo HFell HKR HLO
  have hz8 := hb8.size
  clear hO9 hK9 hw9 hS9 hkin hal7 hb8 hlo7 hlo hR HKL HS11' HB7 HX7 HIN HK7 hCN hGN
  go_wp2_with fail
  refine HCo.out.mono ?_
  intro e w9 hp
  obtain ⟨F9, J9, rfl, hK9, hF9, hf9, hk9⟩ := hp
  have HK9 := Lib.hid hK9
  have HF9 := Lib.hid (hF9.trans HF7.out)
  have hkin8 := HK8.out.inb
  have HI9 := Lib.hid (show ∀ k, kfoot F9 J9 K k → k < w5.heap.size ∨ w6.heap.size ≤ k from fun k hk => by
    rcases hf9 k hk with h | h
    · exact HI8.out k h
    · omega)
  have HS9 := Lib.hid (HS8.out.kept hk9 (fun k hk _ hf => by have := HI8.out k hf; omega))
  have HB9 := Lib.hid (show Below w1.heap.size w1 w9 from HB8.out.trans (hk9.below (by omega) (fun k hk => HK8.out.ge k hk)))
  have hz9 := hk9.size
  clear hK9 hF9 hf9 hk9 hkin8 HI8 HS8 HB8 HK8 HF7 HCo
  have HCW := Lib.hid hc11
  have HFC := Lib.hid hfc
  have HFS := HFS0
  clear hfc
  go_upto_region 17 with fail
  go_cut [118] from 109 (fun v118 wx => (∃ b, v118 = .bool b ∧ (b = true → R.er = 0)) ∧ wx = w9)
  case first =>
    as_aux_lemma =>
    have hBw9 : Below w.heap.size w w9 := HW1.out.trans (HB9.out.mono (by omega))
    have hfc9 := (hBw9.cell (p := ⟨bf, of, none⟩) HFS.out).trans HFC.out
    have f0 := (HB9.out.cell (p := ⟨w.heap.size, 0, none⟩) (by show w.heap.size < w1.heap.size; omega)).trans HD.out.1
    clear hz0 hz1 hz2 hz3 hzw hz6 hmx hle hamx hale hfn hkn hi12 hBw9 hz7 hz8 hz9
    by_cases he : R.er = 0
    · have he2 : (R.er == 0) = true := by simpa using he
      go_wp2_with fail
      go_meet
      case rel => exact ⟨⟨_, rfl, fun _ => he⟩, rfl⟩
    · have he2 : (R.er == 0) = false := by simpa using he
      go_wp2_with fail
      go_meet
      case rel => exact ⟨⟨_, rfl, fun h => by cases h⟩, rfl⟩
  case rest =>
  obtain ⟨⟨b, rfl, hb⟩, rfl⟩ := hcut
  go_upto_if 118 with fail
  go_cut [1, 11] from 109 (fun v1 v11 wx => ∃ (F : Fp) (st : St) (was : List KV) (a11 : Option Addr) (c11 : Nat) (lst : List KW) (a1 : Option Addr) (c1 : Nat), v11 = .slice a11 was.length c11 ∧ v1 = .slice a1 lst.length c1 ∧ Hid (MidK w w1 wx F st pb a11 c11 was a1 lst R.er Kp))
  case first =>
    as_aux_lemma =>
    obtain ⟨w9, rfl⟩ : ∃ x : World, x = wc := ⟨_, rfl⟩
    have hBw9 : Below w.heap.size w w9 := HW1.out.trans (HB9.out.mono (by omega))
    cases b with
    | false =>
      have HM := Lib.hid (show MidK w w1 w9 F9 R.st pb a11 c11 ks.kv la last R.er Kp from
        ⟨HK9.out.jr.raw, HF9.out, HLO.out, HFell.out, HS9.out.mono (fun k hk _ hf => by have := HI9.out k (.inl (.inl hf)); omega), HCW.out, HWN.out, hal, hlast5, HB9.out⟩)
      go_wp2_with fail
      go_meet
      case rel => exact ⟨F9, R.st, ks.kv, a11, c11, last, la, lc, rfl, rfl, HM⟩
    | true =>
      have HE := Lib.hid (hb rfl)
      obtain ⟨hKL, hg⟩ := HKR.out HE.out
      have HKL := Lib.hid hKL
      have hkv9 : R.ks.kv.length < 1000 := by have := HKL.out.few (by omega); omega
      have HP := Lib.hid (pairs_any HK9.out hkv9)
      clear hKL hb
      go_wp2_with fail
      refine HP.out.mono ?_
      rintro e wa ⟨v, rfl, hO, hba⟩
      obtain ⟨aa, ca, rfl⟩ := hO.form
      have HSa := Lib.hid (own_sl hO)
      have HCa := Lib.hid hO.cap.2.2.2
      have HKa := Lib.hid (HK9.out.below hba)
      have hkin := HK9.out.inb
      have HIN := Lib.hid hkin
      have hza := hba.size
      have HCm := Lib.hid (compact_any HKa.out (by rw [HKL.out.len]; omega) (by rw [HKL.out.jn.hf.lo]; simp))
      have HFe := Lib.hid (HKL.out.compFell (by omega) Kp)
      have hlo := comp_lo (st := R.st) (js := R.js) (ks := R.ks)
      rw [HKL.out.jn.hf.lo] at hlo
      simp only [List.length_nil, Nat.zero_add] at hlo
      obtain ⟨Q, hQ⟩ : ∃ Q, compR R.st R.js R.ks = Q := ⟨_, rfl⟩
      rw [hQ] at HCm HFe hlo
      have HWa := Lib.hid (HKL.out.few (by omega))
      have HBa := Lib.hid (show Below w1.heap.size w1 wa from HB9.out.trans (hba.mono (by omega)))
      clear hO hkin hba HP hQ
      go_wp2_with fail
      refine HCm.out.mono ?_
      intro e wb hp
      obtain ⟨F2, J2, rfl, hK2, hb2, hf2, hk2⟩ := hp
      have hBb : Below w1.heap.size w1 wb := HBa.out.trans (hk2.below (by omega) (fun k hk => HKa.out.ge k hk))
      have HM := Lib.hid (show MidK w w1 wb F2 Q.st pb aa ca R.ks.kv none [] R.er Kp from
        ⟨hK2.jr.raw, hb2.trans HF9.out, by omega, by rw [HE.out]; exact HFe.out,
          (((HSa.out.mono (S' := fun b => w9.heap.size ≤ b ∧ b < wa.heap.size) (fun k h1 h2 => ⟨h1, h2⟩)).kept hk2 (fun k hk _ hf => by have := HIN.out k hf; omega)).mono (fun k hk _ hf => by
            rcases hf2 k (.inl (.inl hf)) with h | h
            · have := HIN.out k h; omega
            · omega)), HCa.out, HWa.out, .inl rfl, by simp, hBb⟩)
      clear HCm hK2 hb2 hf2 hk2
      go_wp2_with fail
      go_meet
      case rel => exact ⟨F2, Q.st, R.ks.kv, aa, ca, [], none, 0, rfl, rfl, HM⟩
  case rest =>
  clear hb HWN HLO HKR HFell HCN HGN HFC HCW HB9 HS9 HI9 HF9 HK9 hz9 hz8 hz7
  obtain ⟨F, st, was, a12, c12, lst, a1, c1, rfl, rfl, HM⟩ := hcut
  obtain ⟨w10, rfl⟩ : ∃ x : World, x = wc := ⟨_, rfl⟩
  go_upto_block 2 with fail
  go_cut [14, 15, 16] from 109 (fun v14 v15 v16 wx => ∃ (F : Fp) (st : St) (g : Int), v14 = .int .i64 g ∧ ((g = 12 ∧ v15 = .pointer none ∧ Hid (MidK w w1 wx F st pb a12 c12 was a1 lst R.er Kp)) ∨ (∃ (J : JF) (js : JSt) (K : KF) (ks : KSt), g = 0 ∧ v15 = .pointer (some ⟨K.b, 0, none⟩) ∧ Hid (StdK w1 wx F st J js K ks pb a12 was lst R.er))))
  case first =>
    as_aux_lemma =>
    have HNE2 := Lib.hid (And.intro hz1 hfn)
    clear hz0 hz1 hz2 hz3 hzw hz6 hmx hle hamx hale hfn hkn hi12
    go_wp2_with fail
    go_loopw [14, 15, 16] (fun v14 v15 v16 wr => ∃ (k : Nat) (F : Fp) (st : St), v16 = .int .i64 k ∧ 1 ≤ k ∧ k ≤ 6 ∧ ((v14 = .int .i64 12 ∧ v15 = .pointer none ∧ Hid (MidK w w1 wr F st pb a12 c12 was a1 lst R.er Kp)) ∨ (∃ (J : JF) (js : JSt) (K : KF) (ks : KSt), v14 = .int .i64 0 ∧ v15 = .pointer (some ⟨K.b, 0, none⟩) ∧ Hid (StdK w1 wr F st J js K ks pb a12 was lst R.er)))) (fun _ _ v16 _ => 7 - (intOf v16).toNat)
    case atStart => exact ⟨1, F, st, rfl, by omega, by omega, .inl ⟨rfl, rfl, HM⟩⟩
    case round =>
      clear HM
      obtain ⟨k, F, st, rfl, hk1, hk6, hst⟩ := hrel
      have hB1 : Below w1.heap.size w1 wr := by
        rcases hst with ⟨_, _, h⟩ | ⟨_, _, _, _, _, _, h⟩
        · exact h.out.below
        · exact h.out.below
      have HBr := Lib.hid hB1
      have HBw : Hid (Below w.heap.size w wr) := Lib.hid (HW1.out.trans (hB1.mono (by have := HNE2.out.1; omega)))
      have f0 := (hB1.cell (p := ⟨w.heap.size, 0, none⟩) (by have := HNE2.out.1; show w.heap.size < w1.heap.size; omega)).trans HD.out.1
      have f1 := (hB1.cell (p := ⟨w.heap.size, 1, none⟩) (by have := HNE2.out.1; show w.heap.size < w1.heap.size; omega)).trans HD.out.2
      clear hB1
      by_cases hgo : (u14 = .int .i64 12) ∧ k < fs.length ∧ k < 6
      · obtain ⟨rfl, hk2, hk3⟩ := hgo
        rcases hst with ⟨_, rfl, HM⟩ | ⟨_, _, _, _, h, _⟩
        case inr => cases h
        have hk2i : (k : Int) < (fs.length : Int) := by omega
        have hk3i : (k : Int) < 6 := by omega
        obtain ⟨x, hx⟩ := some_at hk2
        obtain ⟨b', o', e', hbS, hfb2, hfcx, hwfx⟩ := intw_get hfl hx
        injection e' with e'
        injection e' with e1 e2
        subst e1; subst e2
        have HFX := Lib.hid hfcx
        have HC := Lib.hid (HM.out.crash ko kc (by omega) ((hkl.old HBw.out).mono (fun b hb _ => by have := HNE2.out.1; omega)))
        obtain ⟨mo, hm1, hm2, hm3, hm4⟩ := mod_index x 6 (by omega) (by omega)
        have hm2' : IntKind.u64.wrap 6 = 6 := hm2
        have hm3' : (IntKind.u64.wrap x).tmod 6 = (mo : Int) := hm3
        have hq : (-9223372036854775808 ≤ (mo : Int) ∧ (mo : Int) ≤ 9223372036854775807) ∧ max (mo : Int) (-1) = (mo : Int) := by clear hm2 hm3 hm4 hm2' hm3'; omega
        have HQ := Lib.hid hq
        clear hm2 hm3 hx hq hfb hfb2 hfcx hwfx
        go_wp2_with fail
        refine HC.out.mono ?_
        rintro e wc ⟨rfl, Fc, hCr⟩
        have HCr := Lib.hid hCr
        have HFU := Lib.hid (hCr.fuse mo HQ.out)
        have hBwc : Below w.heap.size w wc := HW1.out.trans (hCr.below.mono (by have := HNE2.out.1; omega))
        have g0 := (hCr.below.cell (p := ⟨w.heap.size, 0, none⟩) (by have := HNE2.out.1; show w.heap.size < w1.heap.size; omega)).trans HD.out.1
        have gx := (hBwc.cell (p := ⟨bf, of + k, none⟩) HFS0.out).trans HFX.out
        clear hCr hBwc HC f0 f1
        go_wp2_with fail
        refine HFU.out.mono ?_
        rintro e wd ⟨rfl, Fd, hCd⟩
        have HO := Lib.hid (hCd.open (c11 := c12) (a1 := a1) (w := w) (.inr ⟨HM.out.cw, HM.out.wn, HM.out.sl, HM.out.ln⟩))
        clear HFU hCd g0 gx hm2' hm3' hm4 hm1 HQ
        go_wp2_with fail
        refine HO.out.mono ?_
        rintro e we (⟨Fe, ste, Je, jse, Ke, kse, rfl, HS⟩ | ⟨_, Fe, ste, rfl, HMe⟩)
        · go_wp2_with fail
          go_roundw
          case measure => simp [intOf]; omega
          case rel => exact ⟨k + 1, Fe, ste, by go_num, by omega, by omega, .inr ⟨Je, jse, Ke, kse, rfl, rfl, HS⟩⟩
        · go_wp2_with fail
          go_roundw
          case measure => simp [intOf]; omega
          case rel => exact ⟨k + 1, Fe, ste, by go_num, by omega, by omega, .inl ⟨rfl, rfl, HMe⟩⟩
      · have hx : (¬ k < fs.length) ∨ (k < fs.length ∧ k = 6) ∨ (k < fs.length ∧ k < 6 ∧ u14 ≠ .int .i64 12) := by
          by_cases h2 : k < fs.length
          · by_cases h3 : k < 6
            · exact .inr (.inr ⟨h2, h3, fun h1 => hgo ⟨h1, h2, h3⟩⟩)
            · exact .inr (.inl ⟨h2, by omega⟩)
          · exact .inl h2
        clear hgo
        rcases hx with hk2 | ⟨hk2, rfl⟩ | ⟨hk2, hk3, hne⟩
        · have hk2i : ¬ (k : Int) < (fs.length : Int) := by omega
          go_wp2_with fail
          go_meet
          case rel =>
            rcases hst with ⟨rfl, h, h2⟩ | ⟨J, js, K, ks, rfl, h, h2⟩
            · exact ⟨F, st, 12, rfl, .inl ⟨rfl, h, h2⟩⟩
            · exact ⟨F, st, 0, rfl, .inr ⟨J, js, K, ks, rfl, h, h2⟩⟩
        · have hk2i : (6 : Int) < (fs.length : Int) := by omega
          go_wp2_with fail
          go_meet
          case rel =>
            rcases hst with ⟨rfl, h, h2⟩ | ⟨J, js, K, ks, rfl, h, h2⟩
            · exact ⟨F, st, 12, rfl, .inl ⟨rfl, h, h2⟩⟩
            · exact ⟨F, st, 0, rfl, .inr ⟨J, js, K, ks, rfl, h, h2⟩⟩
        · rcases hst with ⟨h, _, _⟩ | ⟨J, js, K, ks, rfl, rfl, HS⟩
          · exact absurd h hne
          · have hk2i : (k : Int) < (fs.length : Int) := by omega
            have hk3i : (k : Int) < 6 := by omega
            clear hne
            go_wp2_with fail
            go_meet
            case rel => exact ⟨F, st, 0, rfl, .inr ⟨J, js, K, ks, rfl, rfl, HS⟩⟩
  case rest =>
  obtain ⟨F, st, g, rfl, hst⟩ := hcut
  have HMo := Lib.hid (show (a12 = none → c12 = 0) ∧ was.length ≤ 640 ∧ SlAt rKw (· < w.heap.size) w a1 lst ∧ lst.length ≤ 502 from ⟨HM.out.cw, HM.out.wn, HM.out.sl, HM.out.ln⟩)
  clear HM
  obtain ⟨w11, rfl⟩ : ∃ x : World, x = wc := ⟨_, rfl⟩
  go_upto_if 161 with fail
  go_cut [14, 15] from 109 (fun v14 v15 wx => ∃ (F : Fp) (st : St) (J : JF) (js : JSt) (K : KF) (ks : KSt), v14 = .int .i64 0 ∧ v15 = .pointer (some ⟨K.b, 0, none⟩) ∧ Hid (StdK w1 wx F st J js K ks pb a12 was lst R.er))
  case first =>
    as_aux_lemma =>
    rcases hst with ⟨rfl, rfl, HM⟩ | ⟨J, js, K, ks, rfl, rfl, HS⟩
    · have hB1 := HM.out.below
      have hBw : Below w.heap.size w w11 := HW1.out.trans (hB1.mono (by omega))
      have f1 := (hB1.cell (p := ⟨w.heap.size, 1, none⟩) (by show w.heap.size < w1.heap.size; omega)).trans HD.out.2
      have HC := Lib.hid (HM.out.crash ko kc (by omega) ((hkl.old hBw).mono (fun b hb _ => by omega)))
      go_wp2_with fail
      refine HC.out.mono ?_
      rintro e wc ⟨rfl, Fc, hCr⟩
      have HO := Lib.hid (hCr.open (c11 := c12) (a1 := a1) (w := w) (.inr HMo.out))
      clear hCr HC f1 hB1 hBw
      go_wp2_with fail
      refine HO.out.mono ?_
      rintro e we (⟨Fe, ste, Je, jse, Ke, kse, rfl, HS⟩ | ⟨h, _⟩)
      · go_wp2_with fail
        go_meet
        case rel => exact ⟨Fe, ste, Je, jse, Ke, kse, rfl, rfl, HS⟩
      · omega
    · go_wp2_with fail
      go_meet
      case rel => exact ⟨F, st, J, js, K, ks, rfl, rfl, HS⟩
  case rest =>
  clear hst
  obtain ⟨F, st, J, js, K, ks, rfl, rfl, HS⟩ := hcut
  obtain ⟨w12, rfl⟩ : ∃ x : World, x = wc := ⟨_, rfl⟩
  have HFU := Lib.hid HS.out.fuse
  go_wp2_with fail
  refine HFU.out.mono ?_
  rintro e w13 ⟨rfl, F3, J3, HS3⟩
  have HP := Lib.hid (pairs_any HS3.out.kr (by have := HS3.out.kl.few (by omega); omega))
  clear HFU HS
  go_wp2_with fail
  refine HP.out.mono ?_
  rintro e w14 ⟨v, rfl, hO, hb14⟩
  obtain ⟨a17, c17, rfl⟩ := hO.form
  have HS17 := Lib.hid hO.here
  have HSw := Lib.hid (HS3.out.sw.below hb14)
  have HK14 := Lib.hid (HS3.out.kr.below hb14)
  have HB14 := Lib.hid (show Below w1.heap.size w1 w14 from HS3.out.below.trans (hb14.mono HS3.out.below.size))
  have HKL := Lib.hid HS3.out.kl
  have HOK := Lib.hid HS3.out.ok
  have HCN := Lib.hid HS3.out.cn
  have HGE2 := Lib.hid HS3.out.gn
  have HFW := Lib.hid (HS3.out.kl.few (by omega))
  have HSA := Lib.hid (same_any a17 a12 c17 c12 ks.kv was w14 HS17.out (HSw.out.mono (fun k _ hk => hk)) (by have := HFW.out; omega))
  clear hO hb14 HP
  obtain ⟨o, ho⟩ : ∃ o, decide (ks.kv = was) = o := ⟨_, rfl⟩
  rw [ho] at HSA
  go_wp2_with fail
  refine HSA.out.mono ?_
  rintro e w15 ⟨rfl, hb15⟩
  have hBw15 : Below w.heap.size w w15 := HW1.out.trans ((HB14.out.trans (hb15.mono HB14.out.size)).mono (by omega))
  have HBh := Lib.hid (behind_any a12 a1 c12 c1 was lst w15 ((HSw.out.below hb15).mono (fun k _ hk => hk)) HMo.out.1 ((HMo.out.2.2.1.old hBw15).mono (fun k _ hk => hk)) (by have := HMo.out.2.1; omega) (by have := HMo.out.2.2.2; omega))
  have HS17b := Lib.hid (HS17.out.below hb15)
  have HB15 := Lib.hid (HB14.out.trans (hb15.mono HB14.out.size))
  have HK15 := Lib.hid (HK14.out.below hb15)
  clear hb15 hBw15 HSA
  go_wp2_with fail
  refine HBh.out.mono ?_
  rintro e w16 ⟨a8, c8, rfl, hO8, hb16⟩
  have HSB := Lib.hid (same_any a17 a8 c17 c8 ks.kv (lst.foldl kdo was) w16 ((HS17b.out.below hb16).mono (fun k _ hk => hk)) hO8.here (by have := HFW.out; omega))
  have HB16 := Lib.hid (HB15.out.trans (hb16.mono HB15.out.size))
  have HK16 := Lib.hid (HK15.out.below hb16)
  clear hO8 hb16 HBh
  obtain ⟨t, ht⟩ : ∃ t, decide (ks.kv = lst.foldl kdo was) = t := ⟨_, rfl⟩
  rw [ht] at HSB
  have hOT : (R.er = 0 → t = true) ∧ (R.er ≠ 0 → R.er ≠ 12 → o = true) ∧ (o = true ∨ t = true) := by
    obtain ⟨h1, h2, h3⟩ := HOK.out
    rw [← ho, ← ht]
    exact ⟨fun h => decide_eq_true (h1 h), fun h h' => decide_eq_true (h2 h h'), h3.imp (fun h => decide_eq_true h) (fun h => decide_eq_true h)⟩
  have HOT := Lib.hid hOT
  clear hOT ho ht
  go_wp2_with fail
  refine HSB.out.mono ?_
  rintro e w17 ⟨rfl, hb17⟩
  have HB17 := Lib.hid (HB16.out.trans (hb17.mono HB16.out.size))
  have HK17 := Lib.hid (HK16.out.below hb17)
  clear hb17 HSB
  go_upto_region 38 with fail
  go_cut [13, 19, 20, 217] from 100 (fun v13 v19 v20 v wx => v = .bool false ∧ wx = w17)
  case first =>
    as_aux_lemma =>
    obtain ⟨h1, h2, h3⟩ := HOT.out
    by_cases e0 : R.er = 0
    · have ht := h1 e0
      have e1 : (R.er == 0) = true := by simpa using e0
      subst ht
      have HE0 := Lib.hid e0
      clear h1 h2 h3 e0 HOT
      cases o
      all_goals
        go_wp2_with fail
        all_goals
          go_meet
          case rel => exact ⟨rfl, rfl⟩
    · have e1 : (R.er == 0) = false := by simpa using e0
      by_cases e12 : R.er = 12
      · have e2 : (R.er == 12) = true := by simpa using e12
        have HE0 := Lib.hid e12
        clear h1 h2 e0 e12 HOT
        cases o
        · have ht : t = true := by simpa using h3
          subst ht
          clear h3
          go_wp2_with fail
          all_goals
            go_meet
            case rel => exact ⟨rfl, rfl⟩
        · clear h3
          cases t
          all_goals
            go_wp2_with fail
            all_goals
              go_meet
              case rel => exact ⟨rfl, rfl⟩
      · have e2 : (R.er == 12) = false := by simpa using e12
        have ho := h2 e0 e12
        subst ho
        clear h1 h2 h3 e0 e12 HOT
        cases t
        all_goals
          go_wp2_with fail
          all_goals
            go_meet
            case rel => exact ⟨rfl, rfl⟩
  case rest =>
  obtain ⟨rfl, rfl⟩ := hcut
  obtain ⟨w17, rfl⟩ : ∃ x : World, x = wc := ⟨_, rfl⟩
  obtain ⟨w18, hw18⟩ : ∃ x, w17.alloc (.cells #[.string ⟨#[122, 122]⟩, .string ⟨#[]⟩, .bool true] 50) = x := ⟨_, rfl⟩
  have hb18 : Below w17.heap.size w17 w18 := by rw [← hw18]; exact (Below.refl _ _).alloc (Nat.le_refl _) _
  have hz18 : w18.heap.size = w17.heap.size + 1 := by rw [← hw18]; simp
  have hc18 : w18.heap[w17.heap.size]? = some (.cells #[.string ⟨#[122, 122]⟩, .string ⟨#[]⟩, .bool true] 50 (0, 0)) := by rw [← hw18]; exact heap_alloc_new w17 _
  have hS : SlAt rKw (fun b => ¬ kfoot F3 J3 K b ∧ b < w18.heap.size) w18 (some ⟨w17.heap.size, 0, none⟩) zzL := by
    refine .inr ⟨w17.heap.size, 0, rfl, ⟨fun hf => by have := HK17.out.inb _ hf; omega, by omega⟩, by omega, fun k c hk => ?_⟩
    match k, hk with
    | 0, hk =>
      simp [zzL] at hk; subst hk
      refine ⟨_, kw_rel _ _ (⟨#[122, 122]⟩, ⟨#[]⟩, true) (by decide) (by decide), fun i v hi => ?_⟩
      match i, hi with
      | 0, hi => simp at hi; subst hi; rw [Lib.cell_of_heap hc18]; rfl
      | 1, hi => simp at hi; subst hi; rw [Lib.cell_of_heap hc18]; rfl
      | 2, hi => simp at hi; subst hi; rw [Lib.cell_of_heap hc18]; rfl
      | k + 3, hi => simp at hi
    | k + 1, hk => simp [zzL] at hk
  have hcn := HCN.out
  have HCo := Lib.hid (commit_any (HK17.out.below hb18) (by rw [HKL.out.len]; omega) (by rw [HKL.out.jn.hf.lo]; simp) (some ⟨w17.heap.size, 0, none⟩) 1 zzL hS (by decide) (by omega))
  have HNE := Lib.hid (show (comR (wf st (-1) false) js ks zzL).er ≠ 12 from HKL.out.com_up (by omega) (by omega) rfl HGE2.out zzL)
  have HB18 := Lib.hid (HB17.out.trans (hb18.mono HB17.out.size))
  have HW18 := Lib.hid hw18
  have hzl : zzL.length = 1 := rfl
  rw [hzl] at HCo
  have HGE := Lib.hid HK17.out.ge
  clear hw18 hb18 hc18 hS hzl
  go_wp2_with fail
  rw [HW18.out]
  refine HCo.out.mono ?_
  intro e w19 hp
  obtain ⟨F9, J9, rfl, _, _, _, hk9⟩ := hp
  have hB19 : Below w.heap.size w w19 := HW1.out.trans ((HB18.out.trans (hk9.below HB18.out.size (fun k hk => HGE.out k hk))).mono (by omega))
  obtain ⟨er, her⟩ : ∃ x, (comR (wf st (-1) false) js ks zzL).er = x := ⟨_, rfl⟩
  have hne := HNE.out
  rw [her] at hne ⊢
  have hne2 : (er != 12) = true := by simpa using hne
  clear hk9 her HCo HW18 hne
  go_wp2_with fail
  go_ret
  exact ⟨rfl, hB19⟩
end Go.Proofs.YtdebfnlnpfienaaGreatDoor
