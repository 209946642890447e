/- KeepRefuses: the law's walk, but for works. -/
import Derived.Test.YtdebfnlnpfienaaGreatDoorKeInv
namespace Go.Proofs.YtdebfnlnpfienaaGreatDoor
open Go.RowKit Lift Go.Maps
set_option linter.unusedSimpArgs false
set_option linter.unusedVariables false

theorem form_calm {st : St} (h : Calm st) (hn : 10 ≤ st.no.length) : (formR st).2 = 0 ∧ KInv st.no.length (formR st).1 (JSt.new (plcN st 0) (halfN st) 0) KSt.new := by
  obtain ⟨p1, p2, p3⟩ := plc_le st 0 hn
  obtain ⟨a1, a2, a3⟩ := calm_run (l := [some (0, emB), some (1, emB)]) h (sure_fine (n := st.no.length) (s := emB) (by decide) (l := [0, 1]) (fun a ha => by simp at ha; omega))
  change (runOps st (sureOps emB [0, 1])).2 = 0 at a1
  change Calm (runOps st (sureOps emB [0, 1])).1 at a2
  change (runOps st (sureOps emB [0, 1])).1.no.length = _ at a3
  obtain ⟨b1, b2, b3⟩ := calm_run (l := [some (plcN st 0, ⟨#[]⟩)]) a2 (clear_fine (n := (runOps st (sureOps emB [0, 1])).1.no.length) (en := plcN st 0) (by omega))
  change (runOps _ (clearOps (plcN st 0))).2 = 0 at b1
  change Calm (runOps _ (clearOps (plcN st 0))).1 at b2
  change (runOps _ (clearOps (plcN st 0))).1.no.length = _ at b3
  obtain ⟨c1, c2, c3⟩ := calm_run (l := [some (0, rootB 0)]) b2 (sure_fine (s := rootB 0) (by rw [rootB_size]; omega) (l := [0]) (fun a ha => by simp at ha; omega))
  change (runOps _ (sureOps (rootB 0) [0])).2 = 0 at c1
  change Calm (runOps _ (sureOps (rootB 0) [0])).1 at c2
  change (runOps _ (sureOps (rootB 0) [0])).1.no.length = _ at c3
  have e : formR st = runOps (runOps (runOps st (sureOps emB [0, 1])).1 (clearOps (plcN st 0))).1 (sureOps (rootB 0) [0]) := by
    unfold formR; rw [if_pos a1, if_pos b1]
  rw [e]
  have hl := c3.trans (b3.trans a3)
  obtain ⟨q1, q2⟩ := plc_len hl 0
  refine ⟨c1, ⟨c2, hl, rfl, rfl, rfl, ?_, ?_, by decide, ?_, fun p hp => by cases hp⟩⟩
  · show plcN st 0 + halfN st = _
    rw [show KSt.new.gen = 0 from rfl, q1, q2]
  · show _ ≤ plcN st 0
    rw [show KSt.new.gen = 0 from rfl, q1]; exact Nat.le_refl _
  · show 4 * 0 ≤ _
    omega
theorem kw_ones : ∀ S w cs (c : KW), rKw.rel S w cs c → ∀ u ∈ cs, u.oneCell' = true := by
  rintro S w cs c ⟨c1, c2, rfl, ⟨rfl, _⟩, c3, c4, rfl, ⟨rfl, _⟩, rfl⟩ u hu; simp at hu; rcases hu with rfl | rfl | rfl <;> rfl
theorem own_sl {w : World} {base : Nat} {ao : Option Addr} {n cap : Nat} {l : List KV} (h : Lift.Own rKV (fun _ => True) w base 72 (.slice ao n cap) l) : SlAt rKV (fun b => base ≤ b) w ao l := by
  rcases h.here with rfl | ⟨b, off, rfl, hs, hlt, hc⟩
  · exact .inl rfl
  · refine .inr ⟨b, off, rfl, ?_, hlt, fun k c hk => ?_⟩
    · rcases h.cap with ⟨_, _, _, _⟩
      exact (h.lt b rfl).1
    · obtain ⟨cs, h1, h2⟩ := hc k c hk
      exact ⟨cs, kv_flat _ _ _ _ _ _ h1, h2⟩
def NewKeep (w : World) (e : Ending) (w' : World) : Prop := ∃ F J K st js, e = .returned (.tuple #[.pointer (some ⟨K.b, 0, none⟩), .int .i64 0]) ∧ KRaw w.heap.size w' F st J js K KSt.new ∧ KInv 40 st js KSt.new ∧ Below w.heap.size w w'
theorem format_calm {base : Nat} {w : World} {F : Fp} {st : St} (h : Raw base w F st) (hc : Calm st) (hn : 10 ≤ st.no.length) :
    Calls Tryz.prog 7 #[.pointer (some ⟨F.b, 0, none⟩)] w (fun e w' => ∃ F' J K st' js, e = .returned (.tuple #[.pointer (some ⟨K.b, 0, none⟩), .int .i64 0]) ∧ KRaw base w' F' st' J js K KSt.new ∧ F'.b = F.b ∧ KInv st.no.length st' js KSt.new ∧ (∀ k, kfoot F' J K k → foot F k ∨ w.heap.size ≤ k) ∧ Kept (foot F) w w') := by
  obtain ⟨h1, h2⟩ := form_calm hc hn
  refine (kformat_any h hn (by rw [hc.lo]; simp)).mono ?_
  intro e w' hp
  unfold KMade at hp
  rw [h1, if_pos rfl] at hp
  obtain ⟨F', J, K, he, hK, hb, hf, hk⟩ := hp
  exact ⟨F', J, K, _, _, he, hK, hb, h2, hf, hk⟩
set_option maxHeartbeats 8000000 in
set_option maxRecDepth 100000 in
theorem law_refuses (hworks : ∀ w, Calls Tryz.prog 5 #[] w (BelowPost (.bool true) w)) (ao : Option Addr) (cap : Nat) (l : List (List KW)) (w : World) (h : SlArg rKw.slice w ao cap l) :
    Calls Tryz.prog 3 #[.slice ao l.length cap] w (TruePost w) := by
  have hl := h.at'
  have hmx := h.max
  have hle := h.le
  unfold maxLen at hmx
  clear h
  have HWk := Lib.hid (hworks w)
  obtain ⟨i0, hi, hz0, hz1, hz2⟩ := info_parts kw_info
  have HI0 := Lib.hid hi; have HZ0 := Lib.hid hz0; have HZ1 := Lib.hid hz1; have HZ2 := Lib.hid hz2
  clear hi hz0 hz1 hz2
  clear hworks
  go_enter Tryz.func3, Tryz.ntmps3
  go_wp2_with fail
  refine HWk.out.mono ?_
  rintro e w1 ⟨rfl, hb1⟩
  have HNw := Lib.hid (new_any w1 40 (by omega) (by omega))
  clear HWk
  go_wp2_with fail
  refine HNw.out.mono ?_
  rintro e w2 ⟨F0, rfl, hR0, hb2⟩
  have HFm := Lib.hid (format_calm hR0 (st := St.new 40) ⟨rfl, rfl, rfl⟩ (by simp [St.new]))
  have HIn := Lib.hid hR0.ge
  clear HNw hR0
  go_wp2_with fail
  refine HFm.out.mono ?_
  rintro e w3 ⟨F, J, K, st, js, rfl, hK, hFb, hI, hkf, hkp⟩
  have hb12 := chain hb1 hb2
  have hb3 : Below w.heap.size w w3 := hb12.trans (hkp.below hb12.size (fun b hb => by have := HIn.out b hb; have := hb1.size; omega))
  have HK := Lib.hid (hK.rebase (base' := w.heap.size) hb1.size)
  have HI := Lib.hid (show KInv 40 st js KSt.new by have := hI; simpa [St.new] using this)
  have HB := Lib.hid hb3
  clear hK hI hkf hkp hb3 HFm HIn hb12 hb1 hb2
  go_wp2_with fail
  go_loopw [6] (fun v wr => ∃ (i : Nat) (F : Fp) (st : St) (J : JF) (js : JSt) (ks : KSt), i ≤ l.length ∧ i ≤ 20 ∧ v = .int .i64 i ∧ Hid (KRaw w.heap.size wr F st J js K ks) ∧ Hid (KInv 40 st js ks) ∧ ks.cnt ≤ 502 * i ∧ Hid (Below w.heap.size w wr)) (fun v _ => l.length - (intOf v).toNat)
  case atStart => exact ⟨0, F, st, J, js, KSt.new, Nat.zero_le _, by omega, rfl, HK, HI, by simp [KSt.new], HB⟩
  case round =>
    obtain ⟨i, F, st, J, js, ks, hi, hi20, rfl, HK, HI, hcn, HB⟩ := hrel
    by_cases hil : i < l.length
    · by_cases hi2 : i < 20
      · have hil2 : (i : Int) < (l.length : Int) := by omega
        have hi22 : (i : Int) < 20 := by omega
        obtain ⟨li, hli⟩ := some_at hil
        obtain ⟨b, off, cs, rfl, hbw0, hlt0, ⟨a2, c2, rfl, hle2, hmx2, hnn2, hsl0⟩, hc0⟩ := hl.get hli
        have y0w := hc0 0 _ rfl
        simp only [Rd.slice, Nat.mul_one, Nat.add_zero] at y0w
        have y0 := (HB.out.cell (p := ⟨b, off + i, none⟩) hbw0).trans y0w
        have hlt : b < wr.heap.size := by have := HB.out.size; omega
        have hsl := hsl0.old HB.out
        have HY := Lib.hid y0w
        have HSL := Lib.hid hsl0
        have HSm := Lib.hid (some_any a2 c2 li wr (hsl.mono (fun b hb hlt => hlt)) (Nat.le_trans hle2 hmx2))
        clear hc0 hl y0w hsl0
        go_wp2_with fail
        refine HSm.out.mono ?_
        rintro e wa ⟨sb, rfl, hsb, hba⟩
        cases sb with
        | false =>
          go_wp2_with fail
          go_ret
          exact ⟨rfl, HB.out.trans (hba.mono HB.out.size)⟩
        | true =>
          have hli5 : li.length ≤ 502 := hsb rfl
          have hkv9 : ks.kv.length < 1000 := HI.out.few2 HK.out.jr.en (by omega)
          have HKa := Lib.hid (HK.out.below hba)
          have HP1 := Lib.hid (pairs_any HKa.out hkv9)
          clear HSm hsb
          go_wp2_with fail
          refine HP1.out.mono ?_
          rintro e wb ⟨v7, rfl, hO7, hbb⟩
          obtain ⟨a7, c7, rfl⟩ := hO7.form
          have HS7 := Lib.hid (own_sl hO7)
          have hc7 := hO7.cap.2.2.2
          clear hO7 HP1
          have hab := chain hba hbb
          have y1 := (hab.cell (p := ⟨b, off + i, none⟩) hlt).trans y0
          have hslb := hsl.below hab
          have hz1 := hab.size
          have hzw := HB.out.size
          have hbw : b < wb.heap.size := by omega
          go_wp2_with (first | (at_builtin; refine wpList_pushAll rKw rfl _ _ 32 rfl wb.heap.size 50 i0 _ 40 Tryz.underlying32 HI0.out HZ0.out HZ1.out HZ2.out rfl (by decide) (fun _ => True) _ [] (by rfl) (own_made rKw _ wb wb.heap.size _ (Nat.le_refl _)) a2 c2 li rfl hnn2 ((hslb.below ((Below.refl _ _).alloc (Nat.le_refl _) _)).mono (fun b hb _ => ⟨trivial, fun e => by simp [Value.ownBlock] at e; omega⟩)) kw_ones (by unfold maxLen; simp; omega) (by simp; omega) (by simp) ?_; intro v9 wc hO9 hK9 hw9))
          rw [List.nil_append] at hO9
          obtain ⟨a9, c9, rfl⟩ := hO9.form
          have hbc : Below wb.heap.size wb wc := ((Below.refl _ wb).alloc (Nat.le_refl _) _).trans (hK9.below (by simp) (fun k hk => by simp [Value.ownBlock] at hk; omega))
          have hS9 : SlAt rKw (fun k => wb.heap.size ≤ k ∧ k < wc.heap.size) wc a9 li := by
            rcases hO9.here with rfl | ⟨q, o, rfl, _, hq, hc⟩
            · exact .inl rfl
            · exact .inr ⟨q, o, rfl, ⟨(hO9.lt q rfl).1, hq⟩, hq, fun k c hk => by obtain ⟨cs, h1, h2⟩ := hc k c hk; exact ⟨cs, kw_flat _ _ _ _ _ _ h1, h2⟩⟩
          have hac := chain hab hbc
          have hzc := hbc.size
          have hza := hba.size
          have hzb := hbb.size
          have HKc := Lib.hid (HK.out.below hac)
          have hkin := HK.out.inb
          have HKin := Lib.hid hkin
          have HCo := Lib.hid (commit_any HKc.out (by rw [HI.out.len]; omega) (by rw [HI.out.calm.lo]; simp) a9 c9 li (hS9.mono (fun k hk _ => ⟨fun hf => by have := HKin.out k hf; omega, hk.2⟩)) (by omega) (by omega))
          have hcases := com_calm HI.out (by omega) li
          obtain ⟨R, hR⟩ : ∃ R, comR st js ks li = R := ⟨_, rfl⟩
          rw [hR] at HCo hcases
          have hKI : KInv 40 R.st R.js R.ks := by
            rcases hcases with ⟨er, h1, h2⟩ | ⟨_, _, _, h4⟩
            · rw [h2]; exact HI.out
            · exact h4
          have hcnt : R.ks.cnt ≤ ks.cnt + 502 := by
            rcases hcases with ⟨er, h1, h2⟩ | ⟨_, _, h3, _⟩
            · rw [h2]; simp only; omega
            · omega
          have hkv : (R.er ≠ 0 ∧ R.ks.kv = ks.kv) ∨ (R.er = 0 ∧ R.ks.kv = li.foldl kdo ks.kv) := by
            rcases hcases with ⟨er, h1, h2⟩ | ⟨h1, h2, _, _⟩
            · rw [h2]; exact .inl ⟨h1, rfl⟩
            · exact .inr ⟨h1, h2⟩
          have HKI := Lib.hid hKI
          have HCA := Lib.hid hkv
          clear hR hcases hO9 hK9 hw9 hS9 hKI hkv hkin
          go_wp2_with fail
          refine HCo.out.mono ?_
          intro e wd hp
          obtain ⟨F1, J1, rfl, hK1, hb1, hf1, hk1⟩ := hp
          have HK1 := Lib.hid hK1
          have HF1 := Lib.hid hf1
          have HX1 := Lib.hid hk1
          have hkv9' : R.ks.kv.length < 1000 := HKI.out.few2 hK1.jr.en (by omega)
          have HP2 := Lib.hid (pairs_any hK1 hkv9')
          clear hK1 hf1 hk1 HCo
          go_wp2_with fail
          refine HP2.out.mono ?_
          rintro e we ⟨v10, rfl, hO10, hbe⟩
          obtain ⟨a10, c10, rfl⟩ := hO10.form
          have HS10 := Lib.hid (own_sl hO10)
          clear hO10 HP2
          have hzd := HX1.out.size
          have hze := hbe.size
          -- what was read stands
          have HS7e := Lib.hid (((HS7.out.below hbc).kept HX1.out (fun k hk _ hf => by have := HKin.out k hf; omega)).below hbe)
          have HKe := Lib.hid (HK1.out.below hbe)
          have HWe : Hid (Below w.heap.size w we) := Lib.hid (((HB.out.trans (hac.mono hzw)).trans (HX1.out.below (B := w.heap.size) (by omega) (fun k hk => HKc.out.ge k hk))).trans (hbe.mono (by omega)))
          have yE := (HWe.out.cell (p := ⟨b, off + i, none⟩) hbw0).trans HY.out
          have HNW := Lib.hid (fun k (hf : kfoot F1 J1 K k) => show k < wd.heap.size from HK1.out.inb k hf)
          rcases HCA.out with ⟨he0, hkve⟩ | ⟨he0, hkve⟩
          · have he0' : (R.er == 0) = false := by simpa using he0
            have HSA := Lib.hid (same_any a10 a7 c10 c7 R.ks.kv ks.kv we ((HS10.out).mono (fun k _ hk => hk)) (HS7e.out.mono (fun k _ hk => hk)) (by omega))
            rw [decide_eq_true hkve] at HSA
            clear hkve
            go_wp2_with fail
            refine HSA.out.mono ?_
            rintro e wf ⟨rfl, hbf⟩
            have HWf : Hid (Below w.heap.size w wf) := Lib.hid (HWe.out.trans (hbf.mono HWe.out.size))
            have HKf := Lib.hid (HKe.out.below hbf)
            have HS10f := Lib.hid (HS10.out.below hbf)
            have hzf := hbf.size
            have HGn := Lib.hid (gen_any HKf.out)
            have HCm := Lib.hid (compact_any HKf.out (by rw [HKI.out.len]; omega) (by rw [HKI.out.calm.lo]; simp))
            go_wp2_with fail
            refine HGn.out.mono ?_
            rintro e wh ⟨rfl, rfl⟩
            have hcc := comp_calm HKI.out (by omega)
            obtain ⟨Q, hQ⟩ : ∃ Q, compR R.st R.js R.ks = Q := ⟨_, rfl⟩
            rw [hQ] at HCm hcc
            have hQk : Q.ks.kv = R.ks.kv ∧ Q.ks.cnt = R.ks.cnt ∧ KInv 40 Q.st Q.js Q.ks ∧ ((Q.er = 4 ∧ Q.ks.gen = R.ks.gen) ∨ (Q.er = 0 ∧ Q.ks.gen = nxt R.ks.gen)) := by
              rcases hcc with h1 | ⟨h1, h2, h3⟩
              · rw [h1]; exact ⟨rfl, rfl, HKI.out, .inl ⟨rfl, rfl⟩⟩
              · exact ⟨by rw [h2], by rw [h2], h3, .inr ⟨h1, by rw [h2]⟩⟩
            clear hcc hQ HGn
            obtain ⟨hQ1, hQ2, hQ3, hQ4⟩ := hQk
            have HQI := Lib.hid hQ3
            have HQ1 := Lib.hid hQ1
            have HQ4 := Lib.hid hQ4
            clear hQ3 hQ1 hQ4
            have HIf := Lib.hid HKf.out.inb
            have HGf := Lib.hid HKf.out.ge
            go_wp2_with fail
            refine HCm.out.mono ?_
            intro e wi hp
            obtain ⟨F2, J2, rfl, hK2, hb2, hf2, hk2⟩ := hp
            have HK2 := Lib.hid hK2
            have HX2 := Lib.hid hk2
            have hkv2 : Q.ks.kv.length < 1000 := HQI.out.few2 hK2.jr.en (by omega)
            have HP3 := Lib.hid (pairs_any hK2 hkv2)
            have HWi : Hid (Below w.heap.size w wi) := Lib.hid (HWf.out.trans (hk2.below (B := w.heap.size) HWf.out.size (fun k hk => HGf.out k hk)))
            have HS10i := Lib.hid (HS10f.out.kept hk2 (fun k hk _ hf => by have := HF1.out; have := HNW.out k hf; omega))
            clear hK2 hf2 hk2 HCm
            go_wp2_with fail
            refine HP3.out.mono ?_
            rintro e wj ⟨v14, rfl, hO14, hbj⟩
            obtain ⟨a14, c14, rfl⟩ := hO14.form
            have HW14 : Hid (Below w.heap.size w wj) := Lib.hid (HWi.out.trans (hbj.mono HWi.out.size))
            have HKj := Lib.hid (HK2.out.below hbj)
            have HSm2 := Lib.hid (same_any a14 a10 c14 c10 Q.ks.kv R.ks.kv wj (hO14.here) ((HS10i.out.below hbj).mono (fun k _ hk => hk)) (by omega))
            rw [decide_eq_true HQ1.out] at HSm2
            clear hO14 HP3
            go_wp2_with fail
            refine HSm2.out.mono ?_
            rintro e wk ⟨rfl, hbk⟩
            have HKk := Lib.hid (HKj.out.below hbk)
            have HGk := Lib.hid (gen_any HKk.out)
            have hgn := HKI.out.gn
            have ew : IntKind.u32.wrap ((R.ks.gen : Int) + 1) = (nxt R.ks.gen : Int) := by rw [IntKind.wrap_u32]; unfold nxt; omega
            have HWk : Hid (Below w.heap.size w wk) := Lib.hid (HW14.out.trans (hbk.mono HW14.out.size))
            rcases HQ4.out with ⟨hq4, hqg⟩ | ⟨hq4, hqg⟩
            · rw [hqg] at HGk
              have hq40 : (Q.er == 0) = false := by rw [hq4]; rfl
              go_wp2_with fail
              refine HGk.out.mono ?_
              rintro e wl ⟨rfl, rfl⟩
              go_wp2_with fail
              go_roundw
              case measure => simp [intOf]; omega
              case rel => exact ⟨i + 1, F2, Q.st, J2, Q.js, Q.ks, by omega, by omega, by go_num, HKk, HQI, by omega, HWk⟩
            · rw [hqg] at HGk
              go_wp2_with fail
              refine HGk.out.mono ?_
              rintro e wl ⟨rfl, rfl⟩
              go_wp2_with fail
              go_roundw
              case measure => simp [intOf]; omega
              case rel => exact ⟨i + 1, F2, Q.st, J2, Q.js, Q.ks, by omega, by omega, by go_num, HKk, HQI, by omega, HWk⟩
          · have HBh := Lib.hid (behind_any a7 a2 c7 c2 ks.kv li we (HS7e.out.mono (fun k _ hk => hk)) hc7 ((HSL.out.old HWe.out).mono (fun k _ hk => hk)) (by omega) (by omega))
            have HKV := Lib.hid hkve
            clear hkve
            go_wp2_with fail
            refine HBh.out.mono ?_
            rintro e wg ⟨a8, c8, rfl, hO8, hbg⟩
            have HSA := Lib.hid (same_any a10 a8 c10 c8 R.ks.kv (li.foldl kdo ks.kv) wg ((HS10.out.below hbg).mono (fun k _ hk => hk)) hO8.here (by omega))
            rw [decide_eq_true HKV.out] at HSA
            clear hO8 HBh
            go_wp2_with fail
            refine HSA.out.mono ?_
            rintro e wf ⟨rfl, hbf0⟩
            have hbf := chain hbg hbf0
            have HWf : Hid (Below w.heap.size w wf) := Lib.hid (HWe.out.trans (hbf.mono HWe.out.size))
            have HKf := Lib.hid (HKe.out.below hbf)
            have HS10f := Lib.hid (HS10.out.below hbf)
            have hzf := hbf.size
            have HGn := Lib.hid (gen_any HKf.out)
            have HCm := Lib.hid (compact_any HKf.out (by rw [HKI.out.len]; omega) (by rw [HKI.out.calm.lo]; simp))
            go_wp2_with fail
            refine HGn.out.mono ?_
            rintro e wh ⟨rfl, rfl⟩
            have hcc := comp_calm HKI.out (by omega)
            obtain ⟨Q, hQ⟩ : ∃ Q, compR R.st R.js R.ks = Q := ⟨_, rfl⟩
            rw [hQ] at HCm hcc
            have hQk : Q.ks.kv = R.ks.kv ∧ Q.ks.cnt = R.ks.cnt ∧ KInv 40 Q.st Q.js Q.ks ∧ ((Q.er = 4 ∧ Q.ks.gen = R.ks.gen) ∨ (Q.er = 0 ∧ Q.ks.gen = nxt R.ks.gen)) := by
              rcases hcc with h1 | ⟨h1, h2, h3⟩
              · rw [h1]; exact ⟨rfl, rfl, HKI.out, .inl ⟨rfl, rfl⟩⟩
              · exact ⟨by rw [h2], by rw [h2], h3, .inr ⟨h1, by rw [h2]⟩⟩
            clear hcc hQ HGn
            obtain ⟨hQ1, hQ2, hQ3, hQ4⟩ := hQk
            have HQI := Lib.hid hQ3
            have HQ1 := Lib.hid hQ1
            have HQ4 := Lib.hid hQ4
            clear hQ3 hQ1 hQ4
            have HIf := Lib.hid HKf.out.inb
            have HGf := Lib.hid HKf.out.ge
            go_wp2_with fail
            refine HCm.out.mono ?_
            intro e wi hp
            obtain ⟨F2, J2, rfl, hK2, hb2, hf2, hk2⟩ := hp
            have HK2 := Lib.hid hK2
            have HX2 := Lib.hid hk2
            have hkv2 : Q.ks.kv.length < 1000 := HQI.out.few2 hK2.jr.en (by omega)
            have HP3 := Lib.hid (pairs_any hK2 hkv2)
            have HWi : Hid (Below w.heap.size w wi) := Lib.hid (HWf.out.trans (hk2.below (B := w.heap.size) HWf.out.size (fun k hk => HGf.out k hk)))
            have HS10i := Lib.hid (HS10f.out.kept hk2 (fun k hk _ hf => by have := HF1.out; have := HNW.out k hf; omega))
            clear hK2 hf2 hk2 HCm
            go_wp2_with fail
            refine HP3.out.mono ?_
            rintro e wj ⟨v14, rfl, hO14, hbj⟩
            obtain ⟨a14, c14, rfl⟩ := hO14.form
            have HW14 : Hid (Below w.heap.size w wj) := Lib.hid (HWi.out.trans (hbj.mono HWi.out.size))
            have HKj := Lib.hid (HK2.out.below hbj)
            have HSm2 := Lib.hid (same_any a14 a10 c14 c10 Q.ks.kv R.ks.kv wj (hO14.here) ((HS10i.out.below hbj).mono (fun k _ hk => hk)) (by omega))
            rw [decide_eq_true HQ1.out] at HSm2
            clear hO14 HP3
            go_wp2_with fail
            refine HSm2.out.mono ?_
            rintro e wk ⟨rfl, hbk⟩
            have HKk := Lib.hid (HKj.out.below hbk)
            have HGk := Lib.hid (gen_any HKk.out)
            have hgn := HKI.out.gn
            have ew : IntKind.u32.wrap ((R.ks.gen : Int) + 1) = (nxt R.ks.gen : Int) := by rw [IntKind.wrap_u32]; unfold nxt; omega
            have HWk : Hid (Below w.heap.size w wk) := Lib.hid (HW14.out.trans (hbk.mono HW14.out.size))
            rcases HQ4.out with ⟨hq4, hqg⟩ | ⟨hq4, hqg⟩
            · rw [hqg] at HGk
              have hq40 : (Q.er == 0) = false := by rw [hq4]; rfl
              go_wp2_with fail
              refine HGk.out.mono ?_
              rintro e wl ⟨rfl, rfl⟩
              go_wp2_with fail
              go_roundw
              case measure => simp [intOf]; omega
              case rel => exact ⟨i + 1, F2, Q.st, J2, Q.js, Q.ks, by omega, by omega, by go_num, HKk, HQI, by omega, HWk⟩
            · rw [hqg] at HGk
              go_wp2_with fail
              refine HGk.out.mono ?_
              rintro e wl ⟨rfl, rfl⟩
              go_wp2_with fail
              go_roundw
              case measure => simp [intOf]; omega
              case rel => exact ⟨i + 1, F2, Q.st, J2, Q.js, Q.ks, by omega, by omega, by go_num, HKk, HQI, by omega, HWk⟩
      · have hi22 : ¬ (i : Int) < 20 := by omega
        have hil2 : (i : Int) < (l.length : Int) := by omega
        go_wp2_with fail
        go_ret
        exact ⟨rfl, HB.out⟩
    · obtain rfl : i = l.length := by omega
      go_wp2_with fail
      go_ret
      exact ⟨rfl, HB.out⟩
end Go.Proofs.YtdebfnlnpfienaaGreatDoor
