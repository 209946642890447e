/- Append: the program's. -/
import Derived.Test.YtaljgcdjkmpljaaDoorJnApp2
import Derived.Deep.RegionHeld3
namespace Go.Proofs.YtaljgcdjkmpljaaDoor
open Go.RowKit Lift
set_option linter.unusedSimpArgs false
set_option linter.unusedVariables false

theorem JPost.same {base : Nat} {F : Fp} {J : JF} {st : St} {js : JSt} {w w' : World} (h : JRaw base w F st J js) (hb : Below w.heap.size w w') (v : Value) : JPost base F J st js v w (.returned v) w' :=
  ⟨F, J, rfl, h.below hb, rfl, rfl, fun k h => .inl h, Kept.of_below hb _⟩
theorem leftI_le (js : JSt) : -1 ≤ leftI js ∧ leftI js ≤ 1048576 := by unfold leftI; omega
set_option maxHeartbeats 8000000 in
set_option maxRecDepth 100000 in
theorem append_any {base : Nat} {w : World} {F : Fp} {st : St} {J : JF} {js : JSt} (h : JRaw base w F st J js) (s : ByteArray) (hs : s.size ≤ maxTx) (hlo : st.lo.length ≤ 1000000) :
    Calls Tryd.prog 10 #[.pointer (some ⟨J.b, 0, none⟩), .string s] w (JPost base F J (appS st js s) (appJ st js s) (.int .i64 (appE st js s)) w) := by
  obtain ⟨c0, c1, c2, c3, c4, c5⟩ := h.cells
  obtain ⟨b1, b2, b3⟩ := h.bd
  obtain ⟨hl1, hl2⟩ := leftI_le js
  have hJlt := h.lt
  obtain ⟨W0, hW0⟩ : ∃ W0, (w.alloc (.cells #[.pointer (some ⟨J.b, 0, none⟩)] 25)).alloc (.cells #[.string s] 9) = W0 := ⟨_, rfl⟩
  have hB0 : Below w.heap.size w W0 := by rw [← hW0]; exact ((Below.refl _ w).alloc (Nat.le_refl _) _).alloc (by simp) _
  have hsz0 : W0.heap.size = w.heap.size + 2 := by rw [← hW0]; simp
  have e0 : W0.cell? ⟨w.heap.size, 0, none⟩ = some (.pointer (some ⟨J.b, 0, none⟩)) := by rw [← hW0]; simp [go_sem]
  have e1 : W0.cell? ⟨w.heap.size + 1, 0, none⟩ = some (.string s) := by rw [← hW0]; simp [go_sem]
  have HJ0 := Lib.hid (h.below hB0)
  have H := Lib.hid h
  unfold maxTx at hs
  clear h c0 c1 c2 c3 c4 c5
  obtain ⟨c0, c1, c2, c3, c4, c5⟩ := HJ0.out.cells
  cases hd : js.dead with
  | true =>
    rw [hd] at c5
    have eE : appE st js s = 12 := by simp [appE, hd]
    have eS : appS st js s = st := by simp [appS, hd]
    have eJ : appJ st js s = js := by simp [appJ, hd]
    rw [eE, eS, eJ]
    clear eE eS eJ hd
    go_enter Tryd.func10, Tryd.ntmps10
    go_wp2_with fail
    go_ret
    exact JPost.same H.out hB0 _
  | false =>
    rw [hd] at c5
    have HX := fun x : Bel W0 => x.cell e0 (by omega)
    have HY := fun x : Bel W0 => x.cell e1 (by omega)
    have HL := Lib.hid (fun x : Bel W0 => left_any (HJ0.out.below x.below))
    have HD := Lib.hid hd
    clear hd
    by_cases hfull : leftI js < (s.size : Int)
    · have hdl : decide (leftI js < (s.size : Int)) = true := by simpa using hfull
      have eE : appE st js s = 4 := by simp [appE, HD.out, hfull]
      have eS : appS st js s = st := by simp [appS, HD.out, hfull]
      have eJ : appJ st js s = js := by simp [appJ, HD.out, hfull]
      rw [eE, eS, eJ]
      clear eE eS eJ
      go_enter Tryd.func10, Tryd.ntmps10
      go_wp2_with fail
      (refine wp_region_bel (by kernel_rfl) (by kernel_rfl) ?_; (repeat (any_goals (go_big_quiet_step ((go_at_call 9; exact Bel.call (HL.out _)))))); all_goals (refine wpQuiet_nil ?_; intro wq hw'; obtain ⟨⟨wq2, hwq⟩, hw''⟩ := hw'; have hw3 : wq = wq2 := hw''; clear hw''; subst hw3))
      go_wp2_with fail
      go_ret
      exact JPost.same H.out (hB0.trans (hwq.mono hB0.size)) _
    · have hdl : decide (leftI js < (s.size : Int)) = false := by simpa using hfull
      have hsl : s.size ≤ 1048576 := by omega
      go_enter Tryd.func10, Tryd.ntmps10
      go_wp2_with fail
      (refine wp_region_bel (by kernel_rfl) (by kernel_rfl) ?_; (repeat (any_goals (go_big_quiet_step ((go_at_call 9; exact Bel.call (HL.out _)))))); all_goals (refine wpQuiet_nil ?_; intro wq hw'; obtain ⟨⟨wq2, hwq⟩, hw''⟩ := hw'; have hw3 : wq = wq2 := hw''; clear hw''; subst hw3))
      have hB1 : Below w.heap.size w wq := hB0.trans (hwq.mono hB0.size)
      have hz1 := hwq.size
      have HJ1 := Lib.hid (HJ0.out.below hwq)
      have hJ1 : J.b < wq.heap.size := HJ1.out.lt
      have d0 := (hwq.cell (p := ⟨w.heap.size, 0, none⟩) (by simp; omega)).trans e0
      have d1 := (hwq.cell (p := ⟨w.heap.size + 1, 0, none⟩) (by simp; omega)).trans e1
      have hsz1 : w.heap.size + 1 < wq.heap.size := by omega
      have hsz1' : w.heap.size < wq.heap.size := by omega
      clear e0 e1 c0 c1 c2 c3 c4 c5 HX HY HL HJ0 hwq hB0 hz1 hdl
      obtain ⟨c0, c1, c2, c3, c4, c5⟩ := HJ1.out.cells
      clear hW0 hsz0
      have HN := Lib.hid (show ∀ w1, Calls Tryd.prog 12 #[.int .i64 s.size] w1 (fun e w' => e = .returned (.int .i64 (needN s.size)) ∧ w' = w1) from fun w1 => by
        rw [← needI_nat hsl]
        exact (need_any s.size (Wf.of (by omega) (by omega)) w1).mono fun _ _ ⟨a, b⟩ => ⟨a, b.symm⟩)
      have hnd : needN s.size ≤ 20000 := by unfold needN; omega
      have HK := Lib.hid (fun wx (h : Below wq.heap.size wq wx) => show Below wq.heap.size wq wx ∧ wx.cell? ⟨w.heap.size, 0, none⟩ = some (.pointer (some ⟨J.b, 0, none⟩)) ∧ wx.cell? ⟨w.heap.size + 1, 0, none⟩ = some (.string s) ∧ wx.cell? ⟨J.b, 4, none⟩ = some (.int .i64 js.en) from
        ⟨h, (h.cell (p := ⟨w.heap.size, 0, none⟩) hsz1').trans d0, (h.cell (p := ⟨w.heap.size + 1, 0, none⟩) hsz1).trans d1, (h.cell (p := ⟨J.b, 4, none⟩) hJ1).trans c4⟩)
      have hbq := Below.refl wq.heap.size wq
      go_wp2_with fail
      go_region_held3 (fun wx => Below wq.heap.size wq wx ∧ wx.cell? ⟨w.heap.size, 0, none⟩ = some (.pointer (some ⟨J.b, 0, none⟩)) ∧ wx.cell? ⟨w.heap.size + 1, 0, none⟩ = some (.string s) ∧ wx.cell? ⟨J.b, 4, none⟩ = some (.int .i64 js.en))
        (exact HK.out _ (by (repeat (first | exact hbq | with_reducible exact (‹Below wq.heap.size wq _ ∧ _›).1 | with_reducible assumption | with_reducible refine Below.drew ?_ | with_reducible refine Below.alloc ?_ (by first | exact Nat.le_refl _ | exact (‹Below wq.heap.size wq _ ∧ _›).1.size) _ | with_reducible refine Below.setCell ?_ (by simp) _))))
        (first | ((with_reducible refine (HN.out _).mono ?_); rintro e w5 ⟨rfl, rfl⟩))
      all_goals
        have hu1 : IntKind.i64.wrap ((js.en : Int) + (needN s.size : Int)) = ((js.en + needN s.size : Nat) : Int) := by rw [IntKind.wrap_i64]; omega
        rw [hu1]
        clear hu1 HN
        obtain ⟨W1, hW1⟩ : ∃ W1, (wq.alloc (.cells #[.int .i64 ((js.en + needN s.size : Nat) : Int)] 3)).drew = W1 := ⟨_, rfl⟩
        have hBq : Below wq.heap.size wq W1 := by rw [← hW1]; exact ((Below.refl _ _).alloc (Nat.le_refl _) _).drew
        have hszq : W1.heap.size = wq.heap.size + 1 := by rw [← hW1]; simp
        have g2 : W1.cell? ⟨wq.heap.size, 0, none⟩ = some (.int .i64 ((js.en + needN s.size : Nat) : Int)) := by rw [← hW1]; simp [go_sem]
        have HJ2 := Lib.hid (HJ1.out.below hBq)
        have g0 := (hBq.cell (p := ⟨w.heap.size, 0, none⟩) hsz1').trans d0
        have g1 := (hBq.cell (p := ⟨w.heap.size + 1, 0, none⟩) hsz1).trans d1
        have hBw := hB1.trans (hBq.mono (Nat.le_of_lt hsz1'))
        rw [hW1]
        clear c0 c1 c2 c3 c4 c5 d0 d1 HK hbq hW1 HJ1 hB1 hBq
        obtain ⟨c0, c1, c2, c3, c4, c5⟩ := HJ2.out.cells
        have hJ2 := HJ2.out.lt
        have hq1 : wq.heap.size < W1.heap.size := by omega
        have hq2 : w.heap.size + 1 < W1.heap.size := by omega
        have hq3 : w.heap.size < W1.heap.size := by omega
        clear hszq
        have hfo : ∀ k, w.heap.size ≤ k → ¬ foot F k := fun k hk hf => by have := H.out.raw.inb k hf; omega
        obtain ⟨Wd, hWd⟩ : ∃ Wd, ({ heap := W1.heap, tape := W1.tape, drawn := W1.drawn + 1, os := W1.os, output := W1.output } : World) = Wd := ⟨_, rfl⟩
        have hbd : Below W1.heap.size W1 Wd := hWd ▸ (Below.refl _ W1).drew
        have hzd : Wd.heap.size = W1.heap.size := by rw [← hWd]
        have HJd := Lib.hid (HJ2.out.below hbd)
        have k0 := (hbd.cell (p := ⟨w.heap.size, 0, none⟩) hq3).trans g0
        have k1 := (hbd.cell (p := ⟨w.heap.size + 1, 0, none⟩) hq2).trans g1
        have k2 := (hbd.cell (p := ⟨wq.heap.size, 0, none⟩) hq1).trans g2
        have hq1' : wq.heap.size < Wd.heap.size := by omega
        have hq2' : w.heap.size + 1 < Wd.heap.size := by omega
        have hq3' : w.heap.size < Wd.heap.size := by omega
        have hBd := hBw.trans (hbd.mono (Nat.le_of_lt hq3))
        have HSt := Lib.hid (app_steps2 HJd.out k0 k1 k2 hq3' hq2' hq1' (hfo _ (Nat.le_refl _)) (hfo _ (Nat.le_succ _)) (hfo _ (Nat.le_of_lt hsz1')) hsl hlo)
        obtain ⟨⟨st5, er⟩, hr5⟩ : ∃ r, runOps st (appOps js s) = r := ⟨_, rfl⟩
        rw [hr5] at HSt
        have HR5 := Lib.hid hr5
        simp only at HSt
        clear hr5 c0 c1 c2 c3 c4 c5 g0 g1 g2 hq1 hq2 hq3 hbd hzd HJ2
        obtain ⟨c0, c1, c2, c3, c4, c5⟩ := HJd.out.cells
        go_wp2_with fail
        refine wp_region_still_tail 13 (by kernel_rfl) (by kernel_rfl) ?_
        rw [hWd]
        clear hWd hBw
        simp only [List.take_succ_cons, List.take_zero, List.drop_succ_cons, List.drop_zero]
        repeat still_step
        refine wpStill_nil ?_
        go_wp2_with fail
        have hB2 := five_below Wd F w.heap.size (w.heap.size + 1) wq.heap.size
        have hzf := five_size Wd F w.heap.size (w.heap.size + 1) wq.heap.size
        have p0 := (hB2.cell (p := ⟨w.heap.size, 0, none⟩) hq3').trans k0
        have p1 := (hB2.cell (p := ⟨w.heap.size + 1, 0, none⟩) hq2').trans k1
        have p2 := (hB2.cell (p := ⟨wq.heap.size, 0, none⟩) hq1').trans k2
        have HJf := Lib.hid (HJd.out.below hB2)
        have hBf := hBd.trans (hB2.mono (Nat.le_of_lt hq3'))
        rw [show Wd.alloc _ = fiveW Wd F w.heap.size (w.heap.size + 1) wq.heap.size from rfl]
        generalize fiveW Wd F w.heap.size (w.heap.size + 1) wq.heap.size = Wf at *
        have hz3 := hBf.size
        have hwf0 : w.heap.size < Wf.heap.size := by omega
        have hwf1 : w.heap.size + 1 < Wf.heap.size := by omega
        have hwf2 : wq.heap.size < Wf.heap.size := by omega
        refine HSt.out.mono ?_
        rintro e w3 ⟨rfl, hP3⟩
        have hnl := runOps_len (appOps js s) st
        rw [HR5.out] at hnl
        have q0 := hP3.cell p0 hwf0 (hfo _ (Nat.le_refl _))
        have q1 := hP3.cell p1 hwf1 (hfo _ (Nat.le_succ _))
        have q2 := hP3.cell p2 hwf2 (hfo _ (Nat.le_of_lt hsz1'))
        obtain ⟨F3, hR3, hb3, hf3, hk3⟩ := hP3
        have HJ3 := Lib.hid (HJf.out.plate hR3 hb3 hf3 hk3 hnl)
        have hJ3 := HJ3.out.lt
        have hKw := (Kept.of_below hBf (fun _ => False)).trans hk3 (Z := jfoot F J) (fun _ _ h => h.elim) (fun _ _ h => .inl h)
        have hFw : ∀ k, foot F3 k → foot F k ∨ w.heap.size ≤ k := fun k hk => (hf3 k hk).imp id (fun h => by omega)
        have hz4 := hKw.size
        have hk3' := hk3.size
        clear hk3 hf3 hR3 p0 p1 p2 k0 k1 k2 c0 c1 c2 c3 c4 c5 HSt HJf HJd hB2 hBd hzf hBf hq1' hq2' hq3' hnl
        obtain ⟨c0, c1, c2, c3, c4, c5⟩ := HJ3.out.cells
        by_cases h0 : er = 0
        · subst h0
          have eE : appE st js s = 0 := by simp [appE, HD.out, HR5.out]; omega
          have eS : appS st js s = st5 := by simp [appS, HD.out, HR5.out]; omega
          have eJ : appJ st js s = { js with recs := js.recs ++ [s], en := js.en + needN s.size } := by simp [appJ, HD.out, HR5.out]; omega
          have HE := Lib.hid eE; have HS' := Lib.hid eS; have HJ' := Lib.hid eJ
          clear eE eS eJ HR5
          have hroom := left_room hfull HJ3.out.en
          obtain ⟨i0, hi, hz0, hz1, hz2⟩ := str_info0
          have HI := Lib.hid hi; have HZ0 := Lib.hid hz0; have HZ1 := Lib.hid hz1; have HZ2 := Lib.hid hz2
          clear hi hz0 hz1 hz2
          have hbdr : Below w3.heap.size w3 w3.drew := (Below.refl _ _).drew
          have HJ4 := Lib.hid (HJ3.out.below hbdr)
          obtain ⟨ao, cap, elv⟩ := HJ3.out.form
          have HLV := Lib.hid elv
          have HO4 := Lib.hid (show Own Rd.str (fun _ => True) w3.drew base 9 (.slice ao js.recs.length cap) js.recs from elv ▸ HJ4.out.own)
          have hbase : base ≤ w3.drew.heap.size := HJ4.out.raw.base_le
          have hlvn : ∀ k, w.heap.size ≤ k → ¬ some k = J.lv.ownBlock := fun k hk e => by have := (H.out.own.lt k e.symm).2; omega
          have hlt0 : w.heap.size < w3.drew.heap.size := by show w.heap.size < w3.heap.size; omega
          have HPu := Lib.hid (fun w2 (hK : Kept (fun k => some k = (Value.slice ao js.recs.length cap).ownBlock) w3.drew w2) => HJ4.out.pushed (elv ▸ hK))
          have HBx := Lib.hid (fun w2 (hK : Kept (fun k => some k = (Value.slice ao js.recs.length cap).ownBlock) w3.drew w2) => show w2.cell? ⟨w.heap.size, 0, none⟩ = some (.pointer (some ⟨J.b, 0, none⟩)) ∧ w2.cell? ⟨wq.heap.size, 0, none⟩ = some (.int .i64 ((js.en + needN s.size : Nat) : Int)) from by
            rw [← elv] at hK
            have hw0 : w.heap.size < w3.heap.size := by omega
            have hw2 : wq.heap.size < w3.heap.size := by have := hk3'; omega
            exact ⟨(hK.cell (p := ⟨w.heap.size, 0, none⟩) hw0 (hlvn _ (Nat.le_refl _))).trans ((hbdr.cell (p := ⟨w.heap.size, 0, none⟩) hw0).trans q0), (hK.cell (p := ⟨wq.heap.size, 0, none⟩) hw2 (hlvn _ (Nat.le_of_lt hsz1'))).trans ((hbdr.cell (p := ⟨wq.heap.size, 0, none⟩) hw2).trans q2)⟩)
          rw [elv] at c3
          clear elv
          have hrl : js.recs.length + 1 ≤ 10000 := by omega
          have hw30 : w.heap.size < w3.heap.size := by omega
          have hw31 : w.heap.size + 1 < w3.heap.size := by omega
          have hw32 : wq.heap.size < w3.heap.size := by omega
          go_wp2_with fail
          go_region_law (refine step_push Rd.str rfl (.tmp 51) (.tmp 53) 22 rfl base 9 i0 _ 16 Tryd.underlying22 HI.out HZ0.out HZ1.out HZ2.out rfl (by decide) (fun _ => True) _ js.recs (by rfl) HO4.out [.string s] s _ (by rfl) (by simp) ⟨rfl, by unfold maxTx; omega⟩ (by simp [Value.oneCell']) (by unfold maxLen; omega) (by omega) hbase ?_; intro v2 w2 hO2 hK2 hw2; obtain ⟨ao2, cap2, rfl⟩ := hO2.form; obtain ⟨y3, yf3, y4, yf4, ylt⟩ := HPu.out _ hK2; obtain ⟨z0, z2⟩ := HBx.out _ hK2)
          all_goals
            have hG := HJ4.out.grow (v2 := .slice ao2 (js.recs ++ [s]).length cap2) (HLV.out ▸ hK2) hO2 (by
              rcases hw2 with e | ⟨g, e, hg⟩
              · exact .inl (by rw [HLV.out]; exact e)
              · exact .inr ⟨g, e, Nat.le_of_lt hg⟩) (nx := js.en + needN s.size) (by unfold needN; omega) hroom
            have HG := Lib.hid hG
            clear hG hO2 hw2 hK2
            go_wp2_with fail
            go_ret
            rw [HE.out, HS'.out, HJ'.out]
            obtain ⟨G1, G2, G3⟩ := HG.out
            simp only [List.length_append, List.length_singleton, Int.natCast_add] at G1 G2
            have hz5 : w.heap.size ≤ w3.drew.heap.size := by show w.heap.size ≤ w3.heap.size; omega
            exact ⟨F3, ⟨J.b, .slice ao2 (js.recs.length + 1) cap2⟩, rfl, G1, hb3, rfl,
              fun k hk => by
                rcases G3 k (by simpa only [List.length_append, List.length_singleton] using hk) with h | h
                · rcases h with h | h
                  · exact (hFw k h).imp .inl id
                  · exact .inl (.inr h)
                · exact .inr (Nat.le_trans hz5 h),
              (hKw.step hbdr).trans G2 (fun _ _ h => h) (fun k hk h => by
                rcases h with h | h
                · rcases hFw k h with h | h
                  · exact .inl h
                  · omega
                · exact .inr h)⟩
        · have hx2 : (er == 0) = false := by simpa using h0
          have f5 := HJ3.out.free 5
          have eE : appE st js s = er := by simp [appE, HD.out, HR5.out]; omega
          have eS : appS st js s = st5 := by simp [appS, HD.out, HR5.out]; omega
          have eJ : appJ st js s = { js with dead := true } := by simp [appJ, HD.out, HR5.out, h0]; omega
          have HE := Lib.hid eE; have HS' := Lib.hid eS; have HJ' := Lib.hid eJ
          clear eE eS eJ HR5
          go_wp2_with fail
          go_ret
          rw [HE.out, HS'.out, HJ'.out]
          exact ⟨F3, J, rfl, HJ3.out.die, hb3, rfl, fun k hk => hk.elim (fun h => (hFw k h).imp .inl id) (fun h => .inl (.inr h)), hKw.set (.inr (.inl rfl))⟩
end Go.Proofs.YtaljgcdjkmpljaaDoor
