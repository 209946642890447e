/- A keep's Compact and Commit. -/
import Derived.Test.YtdebfnlnpfienaaGreatDoorKe9
namespace Go.Proofs.YtdebfnlnpfienaaGreatDoor
open Go.RowKit Lift Go.Maps
set_option linter.unusedSimpArgs false
set_option linter.unusedVariables false

theorem KPost.same {base : Nat} {F : Fp} {J : JF} {K : KF} {st : St} {js : JSt} {ks : KSt} {w w' : World} (h : KRaw base w F st J js K ks) (hb : Below w.heap.size w w') (v : Value) : KPost base F J K st js ks v w (.returned v) w' :=
  ⟨F, J, rfl, h.below hb, rfl, fun _ h => .inl h, Kept.of_below hb _⟩
set_option maxHeartbeats 1000000 in
set_option maxRecDepth 100000 in
theorem compact_any {base : Nat} {w : World} {F : Fp} {st : St} {J : JF} {js : JSt} {K : KF} {ks : KSt} (h : KRaw base w F st J js K ks) (hn : 10 ≤ st.no.length) (hlo : st.lo.length ≤ 100000) :
    Calls Tryz.prog 14 #[.pointer (some ⟨K.b, 0, none⟩)] w (KPost base F J K (compR st js ks).st (compR st js ks).js (compR st js ks).ks (.int .i64 (compR st js ks).er) w) := by
  obtain ⟨k0, k1, k2, k3, k4⟩ := h.cells
  have HA := Lib.hid (anew_any h hn hlo)
  obtain ⟨R, hR⟩ : ∃ R, compR st js ks = R := ⟨_, rfl⟩
  have HR := Lib.hid (show (if ks.dead then ⟨st, js, ks, 12⟩ else anewR st js ks) = R from hR)
  have H := Lib.hid h
  rw [hR]
  clear hR h
  cases hd : ks.dead with
  | true =>
    have e : R = ⟨st, js, ks, 12⟩ := by rw [← HR.out, if_pos hd]
    subst e
    go_enter Tryz.func14, Tryz.ntmps14
    go_wp2_with fail
    go_ret
    exact KPost.same H.out (Below.refl _ _) _
  | false =>
    have e : anewR st js ks = R := by rw [← HR.out, if_neg (show ¬ ks.dead = true by simp [hd])]
    rw [e] at HA
    go_enter Tryz.func14, Tryz.ntmps14
    go_wp2_with fail
    refine HA.out.mono ?_
    intro e2 w1 hp
    obtain ⟨F', J', rfl, hK, hb, hf, hk⟩ := hp
    have HF := Lib.hid (show KPost base F J K R.st R.js R.ks (.int .i64 R.er) w (.returned (.int .i64 R.er)) w1 from ⟨F', J', rfl, hK, hb, hf, hk⟩)
    clear hK hf hk
    go_wp2_with fail
    go_ret
    exact HF.out
theorem KPost.back {base : Nat} {F : Fp} {J : JF} {K : KF} {st : St} {js : JSt} {ks : KSt} {v : Value} {w w1 w2 : World} {e : Ending} (h : KPost base F J K st js ks v w1 e w2) (hb : Below w.heap.size w w1) : KPost base F J K st js ks v w e w2 := by
  obtain ⟨F2, J2, he, hK, hb2, hf2, hk2⟩ := h
  have hz := hb.size
  exact ⟨F2, J2, he, hK, hb2, fun k h => (hf2 k h).imp id (fun h => by omega), (Kept.of_below hb (fun _ => False)).trans hk2 (fun _ _ h => h.elim) (fun _ _ h => h)⟩
theorem KPost.on {base : Nat} {F F1 : Fp} {J J1 : JF} {K : KF} {st : St} {js : JSt} {ks : KSt} {v : Value} {w w1 w2 : World} {e : Ending} (hb : F1.b = F.b) (hf : ∀ k, kfoot F1 J1 K k → kfoot F J K k ∨ w.heap.size ≤ k) (hk : Kept (kfoot F J K) w w1) (h : KPost base F1 J1 K st js ks v w1 e w2) : KPost base F J K st js ks v w e w2 := by
  obtain ⟨F2, J2, he, hK, hb2, hf2, hk2⟩ := h
  have hz := hk.size
  refine ⟨F2, J2, he, hK, hb2.trans hb, fun k h => ?_, hk.trans hk2 (fun _ _ h => h) (fun k hkw hx => ?_)⟩
  · rcases hf2 k h with h | h
    · exact hf k h
    · exact .inr (by omega)
  · rcases hf k hx with h | h
    · exact h
    · omega
theorem KRaw.jpost {base : Nat} {w w1 : World} {F : Fp} {st st2 : St} {J : JF} {js js2 : JSt} {K : KF} {ks : KSt} (h : KRaw base w F st J js K ks) {v : Value} {e : Ending} (hp : JPost base F J st2 js2 v w e w1) (hl : st2.no.length = st.no.length) :
    ∃ F1 J1, e = .returned v ∧ KRaw base w1 F1 st2 J1 js2 K ks ∧ F1.b = F.b ∧ J1.b = J.b ∧ (∀ k, kfoot F1 J1 K k → kfoot F J K k ∨ w.heap.size ≤ k) ∧ Kept (kfoot F J K) w w1 := by
  obtain ⟨F1, J1, he, hJ, hb, hjb, hf, hk⟩ := hp
  refine ⟨F1, J1, he, { h with
    jr := hJ
    blk := ?_
    map := SMap.old h.map hk h.n2
    n1 := fun hh => ?_
    n2 := fun hh => ?_ }, hb, hjb, fun k hh => ?_, hk.wide (fun k _ hh => .inl hh)⟩
  · rw [hb, hjb]; exact (hk.block K.b h.lt h.n1).trans h.blk
  · rcases hf _ hh with h' | h'
    · exact h.n1 h'
    · have := h.lt; omega
  · rcases hf _ hh with h' | h'
    · exact h.n2 h'
    · have := h.mlt; omega
  · rcases hh with hh | hh
    · exact (hf k hh).imp .inl id
    · exact .inl (.inr hh)
theorem anew4_facts (st : St) (js : JSt) (ks : KSt) (j2 : JSt) (g : Nat) : (anew4 st js ks j2 g).ks.kv = ks.kv ∧ (anew4 st js ks j2 g).ks.cnt = ks.cnt ∧ (anew4 st js ks j2 g).st.no.length = st.no.length ∧ (anew4 st js ks j2 g).st.lo.length ≤ st.lo.length + 2 := by
  have h1 := runOps_len (sureOps emB [1 - g % 2]) st
  have h2 := runOps_lo (sureOps emB [1 - g % 2]) st
  have h3 : (sureOps emB [1 - g % 2]).length = 2 := rfl
  unfold anew4
  split <;> exact ⟨rfl, rfl, h1, by simp only; omega⟩
theorem anew3_facts (st : St) (js : JSt) (ks : KSt) (j2 : JSt) (g : Nat) : (anew3 st js ks j2 g).ks.kv = ks.kv ∧ (anew3 st js ks j2 g).ks.cnt = ks.cnt ∧ (anew3 st js ks j2 g).st.no.length = st.no.length ∧ (anew3 st js ks j2 g).st.lo.length ≤ st.lo.length + 4 := by
  have h1 := runOps_len (sureOps (rootB g) [g % 2]) st
  have h2 := runOps_lo (sureOps (rootB g) [g % 2]) st
  have h3 : (sureOps (rootB g) [g % 2]).length = 2 := rfl
  unfold anew3
  split
  · obtain ⟨a, b, c, d⟩ := anew4_facts (runOps st (sureOps (rootB g) [g % 2])).1 js ks j2 g
    exact ⟨a, b, c.trans h1, by omega⟩
  · exact ⟨rfl, rfl, h1, by simp only; omega⟩
theorem anew2_facts (st : St) (js : JSt) (ks : KSt) (j1 : JSt) (s : ByteArray) (g : Nat) : (anew2 st js ks j1 s g).ks.kv = ks.kv ∧ (anew2 st js ks j1 s g).ks.cnt = ks.cnt ∧ (anew2 st js ks j1 s g).st.no.length = st.no.length ∧ (anew2 st js ks j1 s g).st.lo.length ≤ st.lo.length + 20004 := by
  have h1 := appS_len st j1 s
  have h2 := appS_lo st j1 s
  unfold anew2
  split
  · obtain ⟨a, b, c, d⟩ := anew3_facts (appS st j1 s) js ks (appJ st j1 s) g
    exact ⟨a, b, c.trans h1, by omega⟩
  · exact ⟨rfl, rfl, h1, by simp only; omega⟩
theorem anew1_facts (st : St) (js : JSt) (ks : KSt) (s : ByteArray) (g : Nat) : (anew1 st js ks s g).ks.kv = ks.kv ∧ (anew1 st js ks s g).ks.cnt = ks.cnt ∧ (anew1 st js ks s g).st.no.length = st.no.length ∧ (anew1 st js ks s g).st.lo.length ≤ st.lo.length + 20006 := by
  have h1 := runOps_len (clearOps (plcN st g)) st
  have h2 := runOps_lo (clearOps (plcN st g)) st
  have h3 : (clearOps (plcN st g)).length = 2 := rfl
  unfold anew1
  split
  · obtain ⟨a, b, c, d⟩ := anew2_facts (runOps st (clearOps (plcN st g))).1 js ks (JSt.new (plcN st g) (halfN st) g) s g
    exact ⟨a, b, c.trans h1, by omega⟩
  · exact ⟨rfl, rfl, h1, by simp only; omega⟩
theorem anew_facts (st : St) (js : JSt) (ks : KSt) : (anewR st js ks).ks.kv = ks.kv ∧ (anewR st js ks).ks.cnt = ks.cnt ∧ (anewR st js ks).st.no.length = st.no.length ∧ (anewR st js ks).st.lo.length ≤ st.lo.length + 20006 := by
  unfold anewR
  split
  · exact ⟨rfl, rfl, rfl, by simp only; omega⟩
  · exact anew1_facts st js ks _ _
theorem right_sz {l : List KW} (h : l.any (fun c => !rightW c) = false) : ∀ c ∈ l, c.1.size ≤ 40 ∧ c.2.1.size ≤ 9000 := fun c hc => by
  have h1 := (List.any_eq_false.1 h) c hc
  have h2 : rightW c = true := by cases hr : rightW c <;> simp_all
  simp only [rightW, Bool.and_eq_true, decide_eq_true_eq] at h2
  omega
theorem rec_size {l : List KW} (hs : ∀ c ∈ l, c.1.size ≤ 40 ∧ c.2.1.size ≤ 9000) : (recB l).size ≤ 6 + 9058 * l.length := by
  rw [recB_size]
  refine Nat.le_trans (recL_snoc_len _) ?_
  have : (l.map (fun w : KW => 18 + w.1.size + w.2.1.size)).sum ≤ 9058 * l.length := by
    induction l with
    | nil => simp
    | cons p r ih =>
      have h1 := hs p (List.mem_cons_self ..)
      have h2 := ih (fun q hq => hs q (List.mem_cons_of_mem _ hq))
      simp only [List.map_cons, List.sum_cons, List.length_cons] at h2 ⊢
      omega
  omega
theorem needI_bd (n : Int) : 0 ≤ needI n ∧ needI n ≤ 20000 := by
  unfold needI needN
  split
  · omega
  · omega
/-- An Append in a keep. -/
theorem KRaw.app {base : Nat} {w : World} {F : Fp} {st : St} {J : JF} {js : JSt} {K : KF} {ks : KSt} (h : KRaw base w F st J js K ks) (s : ByteArray) (hs : s.size ≤ maxTx) (hlo : st.lo.length ≤ 1000000) :
    Calls Tryz.prog 35 #[.pointer (some ⟨J.b, 0, none⟩), .string s] w (fun e w1 => e = .returned (.int .i64 (appE st js s)) ∧ ∃ F1 J1, KRaw base w1 F1 (appS st js s) J1 (appJ st js s) K ks ∧ F1.b = F.b ∧ J1.b = J.b ∧ (∀ k, kfoot F1 J1 K k → kfoot F J K k ∨ w.heap.size ≤ k) ∧ Kept (kfoot F J K) w w1) :=
  (append_any h.jr s hs hlo).mono fun e w1 hp => by
    obtain ⟨F1, J1, he, h1, h2, h3, h4, h5⟩ := h.jpost hp (appS_len _ _ _)
    exact ⟨he, F1, J1, h1, h2, h3, h4, h5⟩
theorem KPost.die {base : Nat} {w w1 : World} {F F1 : Fp} {st : St} {J J1 : JF} {js : JSt} {K : KF} {ks : KSt} (h : KRaw base w1 F1 st J1 js K ks) (hb : F1.b = F.b) (hf : ∀ k, kfoot F1 J1 K k → kfoot F J K k ∨ w.heap.size ≤ k) (hk : Kept (kfoot F J K) w w1) (er : Int) :
    KPost base F J K st js ks.die (.int .i64 er) w (.returned (.int .i64 er)) (w1.setCell ⟨K.b, 4, none⟩ (.bool true)) :=
  ⟨F1, J1, rfl, h.die, hb, hf, hk.set (p := ⟨K.b, 4, none⟩) (.inr (.inl rfl))⟩
set_option maxHeartbeats 4000000 in
set_option maxRecDepth 100000 in
theorem commit_any {base : Nat} {w : World} {F : Fp} {st : St} {J : JF} {js : JSt} {K : KF} {ks : KSt} (h : KRaw base w F st J js K ks) (hn : 10 ≤ st.no.length) (hlo : st.lo.length ≤ 50000)
    (ao : Option Addr) (cap : Nat) (l : List KW) (hl : SlAt rKw (fun b => ¬ kfoot F J K b ∧ b < w.heap.size) w ao l) (hlen : l.length ≤ 1000000) (hcn : ks.cnt + 400 ≤ 1000000) :
    Calls Tryz.prog 10 #[.pointer (some ⟨K.b, 0, none⟩), .slice ao l.length cap] w (KPost base F J K (comR st js ks l).st (comR st js ks l).js (comR st js ks l).ks (.int .i64 (comR st js ks l).er) w) := by
  obtain ⟨R, hR⟩ : ∃ R, comR st js ks l = R := ⟨_, rfl⟩
  have HR := Lib.hid (show (if ks.dead then ⟨st, js, ks, 12⟩ else if badC l then ⟨st, js, ks, 3⟩
    else if leftI js < (recB l).size then (if roomI st 0 < (allB ks.kv).size ∨ roomI st (needI (allB ks.kv).size) < (recB l).size then ⟨st, js, ks, 4⟩ else comN st js ks l)
    else comF st js ks l) = R from hR)
  rw [hR]
  clear hR
  obtain ⟨k0, k1, k2, k3, k4⟩ := h.cells
  have H := Lib.hid h
  have hlw := Lib.hid (hl.mono (S' := (· < w.heap.size)) (fun b hb _ => hb.2))
  cases hd : ks.dead with
  | true =>
    have e : R = ⟨st, js, ks, 12⟩ := by rw [← HR.out, if_pos hd]
    subst e
    clear hl
    go_enter Tryz.func10, Tryz.ntmps10
    go_wp2_with fail
    go_ret
    exact KPost.same H.out (Below.refl _ _) _
  | false =>
    have HR1 : Hid ((if badC l then ⟨st, js, ks, 3⟩ else if leftI js < (recB l).size then (if roomI st 0 < (allB ks.kv).size ∨ roomI st (needI (allB ks.kv).size) < (recB l).size then ⟨st, js, ks, 4⟩ else comN st js ks l) else comF st js ks l) = R) := Lib.hid (by rw [← HR.out, if_neg (show ¬ ks.dead = true by simp [hd])])
    clear HR
    by_cases hc0 : l.length = 0
    · have e : R = ⟨st, js, ks, 3⟩ := by rw [← HR1.out, if_pos (by simp [badC, hc0])]
      subst e
      have e0 : (l.length == 0) = true := by simp [hc0]
      clear hl
      go_enter Tryz.func10, Tryz.ntmps10
      go_wp2_with fail
      go_ret
      exact KPost.same H.out (Below.refl _ _) _
    · by_cases hc4 : 400 < l.length
      · have e : R = ⟨st, js, ks, 3⟩ := by rw [← HR1.out, if_pos (by simp [badC, hc4])]
        subst e
        have hc4' : (400 : Int) < (l.length : Int) := by omega
        clear hl
        go_enter Tryz.func10, Tryz.ntmps10
        go_wp2_with fail
        go_ret
        exact KPost.same H.out (Below.refl _ _) _
      · have hc4' : ¬ (400 : Int) < (l.length : Int) := by omega
        have HC := Lib.hid (contains_any ao cap l w hlw.out hlen)
        cases ha : l.any (fun c => !rightW c) with
        | true =>
          have e : R = ⟨st, js, ks, 3⟩ := by rw [← HR1.out, if_pos (by simp [badC, ha])]
          subst e
          rw [ha] at HC
          clear hl
          go_enter Tryz.func10, Tryz.ntmps10
          go_wp2_with fail
          refine HC.out.mono ?_
          rintro e w1 ⟨rfl, hb1⟩
          go_wp2_with fail
          go_ret
          exact KPost.same H.out hb1 _
        | false =>
          have HR2 : Hid ((if leftI js < (recB l).size then (if roomI st 0 < (allB ks.kv).size ∨ roomI st (needI (allB ks.kv).size) < (recB l).size then ⟨st, js, ks, 4⟩ else comN st js ks l) else comF st js ks l) = R) := Lib.hid (by
            rw [← HR1.out, if_neg (show ¬ badC l = true by unfold badC; rw [decide_eq_false hc0, decide_eq_false hc4, ha]; simp)])
          rw [ha] at HC
          have HSZ := Lib.hid (right_sz ha)
          have hsz2 := rec_size HSZ.out
          have HRc := Lib.hid (fun w1 (hb : Below w.heap.size w w1) => record_any ao cap l w1 ((hlw.out.kept (Kept.of_below hb (fun _ => False)) (fun _ _ _ h => h)).mono (fun b hb' _ => Nat.lt_of_lt_of_le hb' hb.size)) hlen HSZ.out)
          clear HR1
          by_cases hlf : leftI js < ((recB l).size : Int)
          · obtain ⟨wt, hwt⟩ : ∃ n, (allB ks.kv).size = n := ⟨_, rfl⟩
            have hwz := h.allsz
            rw [hwt] at hwz
            have HR3 : Hid ((if roomI st 0 < (wt : Int) ∨ roomI st (needI wt) < ((recB l).size : Int) then ⟨st, js, ks, 4⟩ else comN st js ks l) = R) := Lib.hid (by rw [← HR2.out, if_pos hlf, hwt])
            clear HR2
            by_cases hr0 : roomI st 0 < (wt : Int)
            · have e : R = ⟨st, js, ks, 4⟩ := by rw [← HR3.out, if_pos (.inl hr0)]
              subst e
              clear hl
              go_enter Tryz.func10, Tryz.ntmps10
              go_wp2_with fail
              refine HC.out.mono ?_
              rintro e w1 ⟨rfl, hb1⟩
              have HRc1 := Lib.hid (HRc.out w1 hb1)
              obtain ⟨k0, k1, k2, k3, k4⟩ := (h.below hb1).cells
              go_wp2_with fail
              refine HRc1.out.mono ?_
              rintro e w2 ⟨rfl, hb2⟩
              have hb12 := chain hb1 hb2
              have HK2 := Lib.hid (h.below hb12)
              have HLf := Lib.hid (left_any HK2.out.jr)
              obtain ⟨k0, k1, k2, k3, k4⟩ := HK2.out.cells
              clear HC HRc HRc1 h
              go_wp2_with fail
              refine HLf.out.mono ?_
              rintro e w3 ⟨rfl, hb3⟩
              have hb13 := chain hb12 hb3
              have HW := Lib.hid (weight_any (HK2.out.below hb3))
              clear HK2 HLf
              rw [hwt] at HW
              go_wp2_with fail
              refine HW.out.mono ?_
              rintro e w4 ⟨rfl, hb4⟩
              have hb14 := chain hb13 hb4
              have HK4 := Lib.hid (H.out.below hb14)
              have HR0 := Lib.hid (room_any HK4.out hn 0 (by omega) (by omega))
              clear HW
              go_wp2_with fail
              refine HR0.out.mono ?_
              rintro e w5 ⟨rfl, hb5⟩
              have hb15 := chain hb14 hb5
              have HK5 := Lib.hid (H.out.below hb15)
              go_wp2_with fail
              go_ret
              exact KPost.same H.out hb15 _
            · have hr0' : (wt : Int) ≤ roomI st 0 := by omega
              by_cases hr1 : roomI st (needI wt) < ((recB l).size : Int)
              · have e : R = ⟨st, js, ks, 4⟩ := by rw [← HR3.out, if_pos (.inr hr1)]
                subst e
                clear hl
                go_enter Tryz.func10, Tryz.ntmps10
                go_wp2_with fail
                refine HC.out.mono ?_
                rintro e w1 ⟨rfl, hb1⟩
                have HRc1 := Lib.hid (HRc.out w1 hb1)
                obtain ⟨k0, k1, k2, k3, k4⟩ := (h.below hb1).cells
                go_wp2_with fail
                refine HRc1.out.mono ?_
                rintro e w2 ⟨rfl, hb2⟩
                have hb12 := chain hb1 hb2
                have HK2 := Lib.hid (h.below hb12)
                have HLf := Lib.hid (left_any HK2.out.jr)
                obtain ⟨k0, k1, k2, k3, k4⟩ := HK2.out.cells
                clear HC HRc HRc1 h
                go_wp2_with fail
                refine HLf.out.mono ?_
                rintro e w3 ⟨rfl, hb3⟩
                have hb13 := chain hb12 hb3
                have HW := Lib.hid (weight_any (HK2.out.below hb3))
                clear HK2 HLf
                rw [hwt] at HW
                go_wp2_with fail
                refine HW.out.mono ?_
                rintro e w4 ⟨rfl, hb4⟩
                have hb14 := chain hb13 hb4
                have HK4 := Lib.hid (H.out.below hb14)
                have HR0 := Lib.hid (room_any HK4.out hn 0 (by omega) (by omega))
                clear HW
                go_wp2_with fail
                refine HR0.out.mono ?_
                rintro e w5 ⟨rfl, hb5⟩
                have hb15 := chain hb14 hb5
                have HK5 := Lib.hid (H.out.below hb15)
                have HNd := Lib.hid (need_any (wt : Int) (Wf.of (by omega) (by omega)) w5)
                have HR2' := Lib.hid (room_any HK5.out hn (needI wt) (by have := needI_bd (wt : Int); omega) (by have := needI_bd (wt : Int); omega))
                have hnb := needI_bd (wt : Int)
                go_wp2_with fail
                refine HNd.out.mono ?_
                rintro e w6 ⟨rfl, rfl⟩
                go_wp2_with fail
                refine HR2'.out.mono ?_
                rintro e w7 ⟨rfl, hb7⟩
                have hb17 := chain hb15 hb7
                have HK7 := Lib.hid (H.out.below hb17)
                go_wp2_with fail
                go_ret
                exact KPost.same H.out hb17 _
              · have hr1' : ((recB l).size : Int) ≤ roomI st (needI wt) := by omega
                have HR4 : Hid (comN st js ks l = R) := Lib.hid (by rw [← HR3.out, if_neg (fun h => h.elim hr0 hr1)])
                clear HR3
                go_enter Tryz.func10, Tryz.ntmps10
                go_wp2_with fail
                refine HC.out.mono ?_
                rintro e w1 ⟨rfl, hb1⟩
                have HRc1 := Lib.hid (HRc.out w1 hb1)
                obtain ⟨k0, k1, k2, k3, k4⟩ := (h.below hb1).cells
                go_wp2_with fail
                refine HRc1.out.mono ?_
                rintro e w2 ⟨rfl, hb2⟩
                have hb12 := chain hb1 hb2
                have HK2 := Lib.hid (h.below hb12)
                have HLf := Lib.hid (left_any HK2.out.jr)
                obtain ⟨k0, k1, k2, k3, k4⟩ := HK2.out.cells
                clear HC HRc HRc1 h
                go_wp2_with fail
                refine HLf.out.mono ?_
                rintro e w3 ⟨rfl, hb3⟩
                have hb13 := chain hb12 hb3
                have HW := Lib.hid (weight_any (HK2.out.below hb3))
                clear HK2 HLf
                rw [hwt] at HW
                go_wp2_with fail
                refine HW.out.mono ?_
                rintro e w4 ⟨rfl, hb4⟩
                have hb14 := chain hb13 hb4
                have HK4 := Lib.hid (H.out.below hb14)
                have HR0 := Lib.hid (room_any HK4.out hn 0 (by omega) (by omega))
                clear HW
                go_wp2_with fail
                refine HR0.out.mono ?_
                rintro e w5 ⟨rfl, hb5⟩
                have hb15 := chain hb14 hb5
                have HK5 := Lib.hid (H.out.below hb15)
                have HNd := Lib.hid (need_any (wt : Int) (Wf.of (by omega) (by omega)) w5)
                have HR2' := Lib.hid (room_any HK5.out hn (needI wt) (by have := needI_bd (wt : Int); omega) (by have := needI_bd (wt : Int); omega))
                have hnb := needI_bd (wt : Int)
                go_wp2_with fail
                refine HNd.out.mono ?_
                rintro e w6 ⟨rfl, rfl⟩
                go_wp2_with fail
                refine HR2'.out.mono ?_
                rintro e w7 ⟨rfl, hb7⟩
                have hb17 := chain hb15 hb7
                have HK7 := Lib.hid (H.out.below hb17)
                have HAn := Lib.hid (anew_any HK7.out hn (by omega))
                obtain ⟨ak, ac, al, alo⟩ := anew_facts st js ks
                obtain ⟨A, hA⟩ : ∃ A, anewR st js ks = A := ⟨_, rfl⟩
                have HR5 : Hid ((if A.er = 0 then comF A.st A.js A.ks l else A) = R) := Lib.hid (by rw [← HR4.out, comN, hA])
                rw [hA] at HAn ak ac al alo
                clear HR4 hA HK7 HK5 HK4 HR0
                go_wp2_with fail
                refine HAn.out.mono ?_
                intro e w8 hp
                obtain ⟨F8, J8, rfl, hK8, hb8, hf8, hk8⟩ := hp
                have hl8 := Lib.hid (hl)
                by_cases ha0 : A.er = 0
                · have HRX : Hid (comF A.st A.js A.ks l = R) := Lib.hid (by rw [← HR5.out, if_pos ha0])
                  obtain ⟨k0, k1, k2, k3, k4⟩ := hK8.cells
                  have HK8 := Lib.hid hK8
                  have HPo := Lib.hid (And.intro hb8 (And.intro hf8 hk8))
                  rw [ha0]
                  clear hK8 hb8 hf8 hk8
                  have HAp := Lib.hid (HK8.out.app (recB l) (by unfold maxTx; omega) (by omega))
                  have HFD := Lib.hid (appS_lo A.st A.js (recB l))
                  obtain ⟨q, hq⟩ : ∃ q, appE A.st A.js (recB l) = q := ⟨_, rfl⟩
                  have HRF : Hid ((if q = 0 then ⟨appS A.st A.js (recB l), appJ A.st A.js (recB l), (A.ks).doing l, 0⟩ else ⟨appS A.st A.js (recB l), appJ A.st A.js (recB l), (A.ks).die, q⟩) = R) := Lib.hid (by rw [← HRX.out, comF, hq])
                  rw [hq] at HAp
                  go_wp2_with fail
                  refine HAp.out.mono ?_
                  rintro e wA ⟨rfl, FA, JA, hKA, hbA, hjA, hfA, hkA⟩
                  obtain ⟨k0, k1, k2, k3, k4⟩ := hKA.cells
                  have k4f := hKA.free 4
                  have HKA := Lib.hid hKA
                  by_cases hq0 : q = 0
                  · subst hq0
                    have e : R = ⟨appS A.st A.js (recB l), appJ A.st A.js (recB l), (A.ks).doing l, 0⟩ := by rw [← HRF.out]; rfl
                    subst e
                    have HDo := Lib.hid (do_any hKA ao cap l ((((hl8.out.kept (Kept.of_below hb17 (fun _ => False)) (fun _ _ _ h => h)).kept HPo.out.2.2 (fun b hb _ => hb.1)).kept hkA (fun b hb hlt hx => (HPo.out.2.1 b hx).elim hb.1 (fun h => by have := hb17.size; have := hb.2; omega))).mono (fun b hb _ e => hb.1 (.inr (.inr e)))) (by omega) HSZ.out (by omega))
                    clear hKA hl HRF HRX
                    go_wp2_with fail
                    refine HDo.out.mono ?_
                    rintro e wB ⟨rfl, FB, JB, hKB, hbB, hfB, hkB⟩
                    have HFin := Lib.hid (KPost.on (e := .returned (.int .i64 0)) (v := .int .i64 0) hbA hfA hkA ⟨FB, JB, rfl, hKB, hbB, hfB, hkB⟩)
                    clear hKB
                    go_wp2_with fail
                    go_ret
                    exact (KPost.on HPo.out.1 HPo.out.2.1 HPo.out.2.2 HFin.out).back hb17
                  · have e : R = ⟨appS A.st A.js (recB l), appJ A.st A.js (recB l), (A.ks).die, q⟩ := by rw [← HRF.out, if_neg hq0]
                    subst e
                    have hq0' : (q == 0) = false := by simpa using hq0
                    have HFin := Lib.hid (KPost.die hKA hbA hfA hkA q)
                    clear hKA hl
                    go_wp2_with fail
                    go_ret
                    exact (KPost.on HPo.out.1 HPo.out.2.1 HPo.out.2.2 HFin.out).back hb17
                · have e : R = A := by rw [← HR5.out, if_neg ha0]
                  subst e
                  have HFin := Lib.hid (KPost.back (w := w) (show KPost base F J K R.st R.js R.ks (.int .i64 R.er) w7 (.returned (.int .i64 R.er)) w8 from ⟨F8, J8, rfl, hK8, hb8, hf8, hk8⟩) hb17)
                  have ha0' : (R.er == 0) = false := by simpa using ha0
                  clear hK8 hf8 hk8 hl
                  go_wp2_with fail
                  go_ret
                  exact HFin.out
          · have HRX : Hid (comF st js ks l = R) := Lib.hid (by rw [← HR2.out, if_neg hlf])
            clear HR2
            go_enter Tryz.func10, Tryz.ntmps10
            go_wp2_with fail
            refine HC.out.mono ?_
            rintro e w1 ⟨rfl, hb1⟩
            have HRc1 := Lib.hid (HRc.out w1 hb1)
            obtain ⟨k0, k1, k2, k3, k4⟩ := (h.below hb1).cells
            go_wp2_with fail
            refine HRc1.out.mono ?_
            rintro e w2 ⟨rfl, hb2⟩
            have hb12 := chain hb1 hb2
            have HK2 := Lib.hid (h.below hb12)
            have HLf := Lib.hid (left_any HK2.out.jr)
            obtain ⟨k0, k1, k2, k3, k4⟩ := HK2.out.cells
            clear HC HRc HRc1 h
            go_wp2_with fail
            refine HLf.out.mono ?_
            rintro e w3 ⟨rfl, hb3⟩
            have hb13 := chain hb12 hb3
            have HK3 := Lib.hid (HK2.out.below hb3)
            obtain ⟨k0, k1, k2, k3, k4⟩ := HK3.out.cells
            clear HK2 HLf
            have HAp := Lib.hid (HK3.out.app (recB l) (by unfold maxTx; omega) (by omega))
            have HFD := Lib.hid (appS_lo st js (recB l))
            obtain ⟨q, hq⟩ : ∃ q, appE st js (recB l) = q := ⟨_, rfl⟩
            have HRF : Hid ((if q = 0 then ⟨appS st js (recB l), appJ st js (recB l), (ks).doing l, 0⟩ else ⟨appS st js (recB l), appJ st js (recB l), (ks).die, q⟩) = R) := Lib.hid (by rw [← HRX.out, comF, hq])
            rw [hq] at HAp
            go_wp2_with fail
            refine HAp.out.mono ?_
            rintro e wA ⟨rfl, FA, JA, hKA, hbA, hjA, hfA, hkA⟩
            obtain ⟨k0, k1, k2, k3, k4⟩ := hKA.cells
            have k4f := hKA.free 4
            have HKA := Lib.hid hKA
            by_cases hq0 : q = 0
            · subst hq0
              have e : R = ⟨appS st js (recB l), appJ st js (recB l), (ks).doing l, 0⟩ := by rw [← HRF.out]; rfl
              subst e
              have HDo := Lib.hid (do_any hKA ao cap l ((hl.kept (Kept.of_below hb13 (fun _ => False)) (fun _ _ _ h => h)).kept hkA (fun b hb _ => hb.1) |>.mono (fun b hb _ e => hb.1 (.inr (.inr e)))) (by omega) HSZ.out (by omega))
              clear hKA hl HRF HRX
              go_wp2_with fail
              refine HDo.out.mono ?_
              rintro e wB ⟨rfl, FB, JB, hKB, hbB, hfB, hkB⟩
              have HFin := Lib.hid (KPost.on (e := .returned (.int .i64 0)) (v := .int .i64 0) hbA hfA hkA ⟨FB, JB, rfl, hKB, hbB, hfB, hkB⟩)
              clear hKB
              go_wp2_with fail
              go_ret
              exact HFin.out.back hb13
            · have e : R = ⟨appS st js (recB l), appJ st js (recB l), (ks).die, q⟩ := by rw [← HRF.out, if_neg hq0]
              subst e
              have hq0' : (q == 0) = false := by simpa using hq0
              have HFin := Lib.hid (KPost.die hKA hbA hfA hkA q)
              clear hKA hl
              go_wp2_with fail
              go_ret
              exact HFin.out.back hb13
end Go.Proofs.YtdebfnlnpfienaaGreatDoor
