/- A keep laid anew. -/
import Derived.Test.YtdebfnlnpfienaaGreatDoorKeD
import Derived.IntWalk
import Derived.IntWalk
import Derived.IntWalk
import Derived.IntWalk
namespace Go.Proofs.YtdebfnlnpfienaaGreatDoor
open Go.RowKit Lift Go.Maps
set_option linter.unusedSimpArgs false
set_option linter.unusedVariables false

/-- A keep whose plate has gone on, and a new journal on it, both from a world on. -/
structure KJS (base : Nat) (F F1 : Fp) (st : St) (J : JF) (js : JSt) (K : KF) (ks : KSt) (J2 : JF) (js2 : JSt) (w wx : World) : Prop where
  k : KRaw base wx F1 st J js K ks
  j : JRaw base wx F1 st J2 js2
  b : F1.b = F.b
  f : ∀ k, jfoot F1 J2 k → foot F k ∨ w.heap.size ≤ k
  kp : Kept (foot F) w wx
section
variable {base : Nat} {w wx wy : World} {F F1 F2 : Fp} {st0 st st2 : St} {J J2 J3 : JF} {js js2 js3 : JSt} {K : KF} {ks : KSt}
theorem KJS.on (h0 : KRaw base w F st0 J js K ks) (s : KJS base F F1 st J js K ks J2 js2 w wx) (hR : JRaw base wy F2 st2 J3 js3) (hb : F2.b = F1.b) (hf2 : ∀ k, jfoot F2 J3 k → jfoot F1 J2 k ∨ wx.heap.size ≤ k) (hk2 : Kept (jfoot F1 J2) wx wy) (hl : st2.no.length = st.no.length) : KJS base F F2 st2 J js K ks J3 js3 w wy where
  k := by
    have hx : ∀ k, (k = J.b ∨ some k = J.lv.ownBlock ∨ k = K.b ∨ k = K.mb) → ¬ jfoot F1 J2 k := fun k hk hx => by
      have := h0.own4 k hk
      rcases s.f k hx with h | h
      · exact this.1 h
      · omega
    refine s.k.apart hR.raw hb (fun k hk hh => ?_) hk2 hx hl
    rcases hf2 k (.inl hh) with h | h
    · exact hx k hk h
    · have := (s.k.own4 k hk).2; omega
  j := hR
  b := hb.trans s.b
  f := fun k hk => by
    have hz := s.kp.size
    rcases hf2 k hk with h | h
    · exact s.f k h
    · exact .inr (by omega)
  kp := s.kp.trans hk2 (fun _ _ h => h) (fun k hkw hx => by
    rcases s.f k hx with h | h
    · exact h
    · omega)
end
/-! ### The walk -/
theorem sl_one {w : World} {S : Nat → Prop} {g : Nat} {x : Nat} (h : w.cell? ⟨g, 0, none⟩ = some (.int .i64 x)) (hs : S g) (hg : g < w.heap.size) (hx : x ≤ 1000000) : SlAt (Rd.int .i64) S w (some ⟨g, 0, none⟩) ([x].map fun n : Nat => (n : Int)) := by
  refine .inr ⟨g, 0, rfl, hs, hg, fun k c hk => ?_⟩
  match k, hk with
  | 0, hk =>
    simp at hk; subst hk
    refine ⟨[.int .i64 x], ⟨rfl, Wf.of (by omega) (by omega)⟩, fun i v hi => ?_⟩
    match i, hi with
    | 0, hi => simp at hi; subst hi; simpa [Rd.int] using h
  | k + 1, hk => simp at hk
/-- One sector put and made sure. -/
theorem sure1 {base : Nat} {w : World} {F : Fp} {st : St} (h : Raw base w F st) (s : ByteArray) (hs : s.size ≤ 64) (g a n c : Nat) (hn : n = 1) (hg : ¬ foot F g) (hgl : g < w.heap.size) (hc : w.cell? ⟨g, 0, none⟩ = some (.int .i64 a)) (ha : a ≤ 1000000) (hlo : st.lo.length ≤ 1000000) :
    Calls Tryz.prog 20 #[.pointer (some ⟨F.b, 0, none⟩), .string s, .slice (some ⟨g, 0, none⟩) n c] w (fun e w' => e = .returned (.int .i64 (runOps st (sureOps s [a])).2) ∧ PlS base F (runOps st (sureOps s [a])).1 w w') := by
  subst hn
  exact sure_any h s hs _ _ [a] (by simp) (sl_one hc hg hgl ha) hlo
theorem KJS.die {base : Nat} {w wx : World} {F F1 : Fp} {st : St} {J J2 : JF} {js js2 : JSt} {K : KF} {ks : KSt} (s : KJS base F F1 st J js K ks J2 js2 w wx) (er : Int) :
    KPost base F J K st js ks.die (.int .i64 er) w (.returned (.int .i64 er)) (wx.setCell ⟨K.b, 4, none⟩ (.bool true)) :=
  ⟨F1, J, rfl, s.k.die, s.b, fun k hk => by
    rcases hk with (hk | hk) | hk
    · rcases s.f k (.inl hk) with h | h
      · exact .inl (.inl (.inl h))
      · exact .inr h
    · exact .inl (.inl (.inr hk))
    · exact .inl (.inr hk), (s.kp.wide (fun k _ h => .inl (.inl h))).set (p := ⟨K.b, 4, none⟩) (.inr (.inl rfl))⟩
theorem PlS.die {base : Nat} {w wx : World} {F : Fp} {st0 st : St} {J : JF} {js : JSt} {K : KF} {ks : KSt} (h : KRaw base w F st0 J js K ks) (s : PlS base F st w wx) (hl : st.no.length = st0.no.length) (er : Int) :
    KPost base F J K st js ks.die (.int .i64 er) w (.returned (.int .i64 er)) (wx.setCell ⟨K.b, 4, none⟩ (.bool true)) := by
  obtain ⟨F', J', hK, hb, hf, hk⟩ := h.plate s hl
  obtain ⟨F1, hR, hb1, hf1, hk1⟩ := s
  have hA := h.apart hR hb1 (fun k hk' hh => by
      have := h.own4 k hk'
      rcases hf1 k hh with h1 | h1
      · exact this.1 h1
      · omega) hk1 (fun k hk' => (h.own4 k hk').1) hl
  refine ⟨F1, J, rfl, hA.die, hb1, fun k hh => ?_, (hk1.wide (fun k _ h => .inl (.inl h))).set (p := ⟨K.b, 4, none⟩) (.inr (.inl rfl))⟩
  rcases hh with (hh | hh) | hh
  · rcases hf1 k hh with h' | h'
    · exact .inl (.inl (.inl h'))
    · exact .inr h'
  · exact .inl (.inl (.inr hh))
  · exact .inl (.inr hh)
theorem appS_len (st : St) (js : JSt) (s : ByteArray) : (appS st js s).no.length = st.no.length := by
  unfold appS
  split
  · rfl
  · split
    · rfl
    · exact runOps_len _ _
theorem appOps_len (js : JSt) (s : ByteArray) : (appOps js s).length = (s.size + 63) / 64 + 4 := by simp [appOps, layOps]
theorem appS_lo (st : St) (js : JSt) (s : ByteArray) : (appS st js s).lo.length ≤ st.lo.length + 20000 := by
  unfold appS
  split
  · omega
  · split
    · omega
    · rename_i h
      have h1 := runOps_lo (appOps js s) st
      rw [appOps_len] at h1
      have h2 := (leftI_le js).2
      omega
theorem KJS.below {base : Nat} {w wx wy : World} {F F1 : Fp} {st : St} {J J2 : JF} {js js2 : JSt} {K : KF} {ks : KSt} (s : KJS base F F1 st J js K ks J2 js2 w wx) (hb : Below wx.heap.size wx wy) : KJS base F F1 st J js K ks J2 js2 w wy :=
  ⟨s.k.below hb, s.j.below hb, s.b, s.f, s.kp.step hb⟩
theorem KJS.plate {base : Nat} {w wx wy : World} {F F1 : Fp} {st0 st st2 : St} {J J2 : JF} {js js2 : JSt} {K : KF} {ks : KSt} (h0 : KRaw base w F st0 J js K ks) (s : KJS base F F1 st J js K ks J2 js2 w wx) (hs : PlS base F1 st2 wx wy) (hl : st2.no.length = st.no.length) : ∃ F2, KJS base F F2 st2 J js K ks J2 js2 w wy := by
  obtain ⟨F2, hR, hb, hf, hk⟩ := hs
  exact ⟨F2, KJS.on h0 s (s.j.plate hR hb hf hk hl) hb (fun k hk' => by
    rcases hk' with h | h
    · rcases hf k h with h | h
      · exact .inl (.inl h)
      · exact .inr h
    · exact .inl (.inr h)) (hk.wide (fun k _ h => .inl h)) hl⟩
theorem KJS.made {base : Nat} {w W wx : World} {F F1 : Fp} {st0 st : St} {J J2 : JF} {js js2 : JSt} {K : KF} {ks : KSt} (h0 : KRaw base w F st0 J js K ks) (hW : Below w.heap.size w W) (hJ : JRaw base wx F1 st J2 js2) (hb : F1.b = F.b) (hf : ∀ k, jfoot F1 J2 k → foot F k ∨ W.heap.size ≤ k) (hk : Kept (foot F) W wx) (hl : st.no.length = st0.no.length) : KJS base F F1 st J js K ks J2 js2 w wx := by
  have hz := hW.size
  refine ⟨(h0.below hW).apart hJ.raw hb (fun k hk' hh => ?_) hk (fun k hk' => (h0.own4 k hk').1) hl, hJ, hb, fun k h => (hf k h).imp id (fun h => by omega), (Kept.of_below hW (fun _ => False)).trans hk (fun _ _ h => h.elim) (fun _ _ h => h)⟩
  have := h0.own4 k hk'
  rcases hf k (.inl hh) with h | h
  · exact this.1 h
  · omega
theorem KJS.done {base : Nat} {w wx : World} {F F1 : Fp} {st0 st : St} {J J2 : JF} {js js2 : JSt} {K : KF} {ks : KSt} {g : Nat} (h0 : KRaw base w F st0 J js K ks) (s : KJS base F F1 st J js K ks J2 js2 w wx) (hg : g < 4294967296) :
    KPost base F J K st js2 { ks with gen := g } (.int .i64 0) w (.returned (.int .i64 0)) ((wx.setCell ⟨K.b, 2, none⟩ (.int .u32 g)).setCell ⟨K.b, 3, none⟩ (.pointer (some ⟨J2.b, 0, none⟩))) := by
  have hx : ∀ k, (k = J.b ∨ some k = J.lv.ownBlock ∨ k = K.b ∨ k = K.mb) → ¬ jfoot F1 J2 k := fun k hk hx => by
    have := h0.own4 k hk
    rcases s.f k hx with h | h
    · exact this.1 h
    · omega
  refine ⟨F1, J2, rfl, s.k.swap s.j hg (fun e => hx K.b (.inr (.inr (.inl rfl))) (.inr (.inl e))) (fun e => hx K.mb (.inr (.inr (.inr rfl))) (.inr (.inl e))) (fun k hk => ⟨fun e => hx K.b (.inr (.inr (.inl rfl))) (.inr (.inr (e ▸ hk))), fun e => hx K.mb (.inr (.inr (.inr rfl))) (.inr (.inr (e ▸ hk)))⟩), s.b, fun k hk => ?_, ?_⟩
  · rcases hk with hk | hk
    · rcases s.f k hk with h | h
      · exact .inl (.inl (.inl h))
      · exact .inr h
    · exact .inl (.inr hk)
  · exact ((s.kp.wide (fun k _ h => .inl (.inl h))).set (p := ⟨K.b, 2, none⟩) (.inr (.inl rfl))).set (p := ⟨K.b, 3, none⟩) (.inr (.inl rfl))
set_option maxHeartbeats 8000000 in
set_option maxRecDepth 100000 in
theorem anew_any {base : Nat} {w : World} {F : Fp} {st : St} {J : JF} {js : JSt} {K : KF} {ks : KSt} (h : KRaw base w F st J js K ks) (hn : 10 ≤ st.no.length) (hlo : st.lo.length ≤ 100000) :
    Calls Tryz.prog 34 #[.pointer (some ⟨K.b, 0, none⟩)] w (KPost base F J K (anewR st js ks).st (anewR st js ks).js (anewR st js ks).ks (.int .i64 (anewR st js ks).er) w) := by
  have HA := Lib.hid (fun (x : Bel w) => (callsIn_wide (n := 9)).1 (kall_in 9 (by omega) (h.below x.below)))
  have hz := h.allsz
  have hgn := h.gn
  obtain ⟨k0, k1, k2, k3, k4⟩ := h.cells
  have hKb := h.lt
  have H := Lib.hid h
  have hn2 := h.jr.raw.n2
  have eg : IntKind.u32.wrap ((ks.gen : Int) + 1) = (nxt ks.gen : Int) := by rw [IntKind.wrap_u32]; unfold nxt; omega
  have hgc : ∀ x : Bel w, x.w'.cell? ⟨K.b, 2, none⟩ = some (.int .u32 ks.gen) := fun x => x.cell k2 hKb
  obtain ⟨R, hR⟩ : ∃ R, anewR st js ks = R := ⟨_, rfl⟩
  obtain ⟨s, hs⟩ : ∃ s, allB ks.kv = s := ⟨_, rfl⟩
  have HR := Lib.hid (show (if roomI st 0 < s.size then ⟨st, js, ks, 4⟩ else anew1 st js ks s (nxt ks.gen)) = R by rw [← hR, ← hs]; rfl)
  rw [hR]
  rw [hs] at HA hz
  have hg2 : nxt ks.gen < 4294967296 := by unfold nxt; omega
  clear h hR hs
  go_enter Tryz.func34, Tryz.ntmps34
  go_wp2_with fail
  (refine wp_region_bel (by kernel_rfl) (by kernel_rfl) ?_; (repeat (any_goals (go_big_quiet_step ((exact Bel.call (HA.out _)))))); all_goals (refine wpQuiet_nil ?_; intro wq hw'; obtain ⟨⟨wq2, hwq⟩, hw''⟩ := hw'; have hw3 : wq = wq2 := hw''; clear hw''; subst hw3))
  have HKq := Lib.hid (H.out.below hwq)
  have HRm := Lib.hid (room_any HKq.out hn 0 (by omega) (by omega))
  have hz2 : s.size < 9223372036854775807 := by omega
  clear HA hgc k0 k1 k2 k3 k4 eg
  by_cases hr : roomI st 0 < (s.size : Int)
  · have e : R = ⟨st, js, ks, 4⟩ := by rw [← HR.out, if_pos hr]
    subst e
    go_wp2_with fail
    refine HRm.out.mono ?_
    rintro e w1 ⟨rfl, hb1⟩
    go_wp2_with fail
    go_ret
    exact ⟨F, J, rfl, HKq.out.below hb1, rfl, fun _ h => .inl h, Kept.of_below (chain hwq hb1) _⟩
  · have HR1 : Hid (anew1 st js ks s (nxt ks.gen) = R) := Lib.hid (by rw [← HR.out, if_neg hr])
    clear HR
    go_wp2_with fail
    refine HRm.out.mono ?_
    rintro e w1 ⟨rfl, hb1⟩
    have hB1 := chain hwq hb1
    have hK1 := H.out.below hB1
    clear HRm HKq hb1
    go_upto_region 4 with fail
    obtain ⟨k0, k1, k2, k3, k4⟩ := hK1.cells
    have hhf : 4 ≤ halfN st := by unfold halfN; omega
    have hpl : 2 ≤ plcN st (nxt ks.gen) ∧ plcN st (nxt ks.gen) + halfN st ≤ st.no.length := by
      unfold plcN halfN
      rcases (by omega : nxt ks.gen % 2 = 0 ∨ nxt ks.gen % 2 = 1) with h | h <;> rw [h] <;> omega
    have HPl := Lib.hid (place2_any hK1.jr.raw hn (nxt ks.gen) hg2)
    have HHf := Lib.hid (half_any hK1.jr.raw hn)
    have hRd := hK1.jr.raw.below (Below.refl _ w1).drew
    have hBW : Below w.heap.size w w1.drew := hB1.drew
    have HKW := Lib.hid (H.out.below hBW)
    have HPl := Lib.hid (place2_any HKW.out.jr.raw hn (nxt ks.gen) hg2)
    have HHf := Lib.hid (half_any HKW.out.jr.raw hn)
    have HFm := Lib.hid (format_any HKW.out.jr.raw (plcN st (nxt ks.gen)) (halfN st) (nxt ks.gen) (by omega) hpl.2 hg2 HKW.out.jr.raw.base_le (by omega))
    have HKC := Lib.hid HKW.out.cells.1
    have k0 := HKW.out.cells.1
    obtain ⟨⟨st1, q1⟩, hq⟩ : ∃ q, runOps st (clearOps (plcN st (nxt ks.gen))) = q := ⟨_, rfl⟩
    have hl1 := runOps_len (clearOps (plcN st (nxt ks.gen))) st
    have hlo1 := runOps_lo (clearOps (plcN st (nxt ks.gen))) st
    rw [hq] at HFm hl1 hlo1
    simp only [clearOps, List.length_cons, List.length_nil] at hlo1
    simp only at HFm hl1
    have hkl := H.out.own4
    by_cases e1 : q1 = 0
    · subst e1
      have HR2 : Hid (anew2 st1 js ks (JSt.new (plcN st (nxt ks.gen)) (halfN st) (nxt ks.gen)) s (nxt ks.gen) = R) := Lib.hid (by rw [← HR1.out, anew1, hq]; simp)
      have HF2 := Lib.hid (HFm.out.mono (R' := fun e w5 => ∃ F1 J2, e = .returned (.tuple #[.pointer (some ⟨J2.b, 0, none⟩), .int .i64 0]) ∧ KJS base F F1 st1 J js K ks J2 (JSt.new (plcN st (nxt ks.gen)) (halfN st) (nxt ks.gen)) w w5) (fun e w5 hp => by
        unfold MadePost at hp
        rw [if_pos rfl] at hp
        obtain ⟨F1, J2, he, hJ, hb, hf, hk⟩ := hp
        exact ⟨F1, J2, he, KJS.made H.out hBW hJ hb hf hk hl1⟩))
      have hlJ : (JSt.new (plcN st (nxt ks.gen)) (halfN st) (nxt ks.gen)).gen = nxt ks.gen := rfl
      clear HFm HR1 hRd hkl
      go_region_held3 (fun wx => wx.cell? ⟨K.b, 0, none⟩ = some (.pointer (some ⟨F.b, 0, none⟩)))
        (first | exact HKC.out | assumption)
        (first
          | (go_at_call 22; refine HPl.out.mono ?_; rintro e w2 ⟨rfl, rfl⟩)
          | (go_at_call 23; refine HHf.out.mono ?_; rintro e w2 ⟨rfl, rfl⟩)
          | (go_at_call 21; refine HF2.out.mono ?_; rintro e w5 ⟨F1, J2, rfl, hS⟩; have kx := hS.k.cells.1; rw [hS.b] at kx; have HS := Lib.hid hS; clear hS))
      have hlJ2 := runOps_lo (appOps (JSt.new (plcN st (nxt ks.gen)) (halfN st) (nxt ks.gen)) s) st1
      have HAp := Lib.hid (append_any HS.out.j s (by unfold maxTx; omega) (by omega))
      obtain ⟨j1, hj1⟩ : ∃ j1, JSt.new (plcN st (nxt ks.gen)) (halfN st) (nxt ks.gen) = j1 := ⟨_, rfl⟩
      rw [hj1] at HAp HR2 HS
      have HLA := Lib.hid (appS_len st1 j1 s)
      have HLL := Lib.hid (appS_lo st1 j1 s)
      clear HF2 hlJ hlJ2 hj1 HPl HHf HKW HKC
      obtain ⟨st2, hst2⟩ : ∃ x, appS st1 j1 s = x := ⟨_, rfl⟩
      obtain ⟨j2, hj2⟩ : ∃ x, appJ st1 j1 s = x := ⟨_, rfl⟩
      obtain ⟨q2, hq2⟩ : ∃ x, appE st1 j1 s = x := ⟨_, rfl⟩
      rw [hst2, hj2, hq2] at HAp
      rw [hst2] at HLA HLL
      have HR3 : Hid ((if q2 = 0 then anew3 st2 js ks j2 (nxt ks.gen) else ⟨st2, js, ks.die, q2⟩) = R) := Lib.hid (by rw [← HR2.out, anew2, hst2, hj2, hq2])
      have HAq := Lib.hid (HAp.out.mono (R' := fun e w6 => e = .returned (.int .i64 q2) ∧ ∃ F2 J3, J3.b = J2.b ∧ KJS base F F2 st2 J js K ks J3 j2 w w6) (fun e w6 hp => by
        obtain ⟨F2, J3, he, hJ, hb, hjb, hf, hk⟩ := hp
        exact ⟨he, F2, J3, hjb, KJS.on H.out HS.out hJ hb hf hk HLA.out⟩))
      have hls : st2.no.length = st.no.length := HLA.out.trans hl1
      have hlo2 : st2.lo.length ≤ 200000 := by have := HLL.out; omega
      clear HAp HR2 hst2 hj2 hq2 HLA HLL
      go_wp2_with fail
      refine HAq.out.mono ?_
      rintro e w6 ⟨rfl, F2, J3, hjb, hS6⟩
      clear HAq HS
      obtain ⟨k0, k1, k2, k3, k4⟩ := hS6.k.cells
      rw [hS6.b] at k0
      have k4f := hS6.k.free 4
      by_cases e2 : q2 = 0
      · subst e2
        have HR4 : Hid (anew3 st2 js ks j2 (nxt ks.gen) = R) := Lib.hid (by rw [← HR3.out]; rfl)
        clear HR3
        have HS6 := Lib.hid hS6
        have hb6 := hS6.b
        have hKb6 := hS6.k.lt
        clear hS6
        obtain ⟨⟨st3, q3⟩, hq3⟩ : ∃ q, runOps st2 (sureOps (rootB (nxt ks.gen)) [nxt ks.gen % 2]) = q := ⟨_, rfl⟩
        have hl3 := runOps_len (sureOps (rootB (nxt ks.gen)) [nxt ks.gen % 2]) st2
        have hlo3 := runOps_lo (sureOps (rootB (nxt ks.gen)) [nxt ks.gen % 2]) st2
        rw [hq3] at hl3 hlo3
        simp only [sureOps, List.map_cons, List.map_nil, List.length_append, List.length_cons, List.length_nil] at hlo3
        simp only at hl3
        have HR5 : Hid ((if q3 = 0 then anew4 st3 js ks j2 (nxt ks.gen) else ⟨st3, js, ks.die, q3⟩) = R) := Lib.hid (by rw [← HR4.out, anew3, hq3])
        have em : ((nxt ks.gen : Nat) : Int).tmod 2 = ((nxt ks.gen % 2 : Nat) : Int) := (Int.ofNat_tmod _ _).symm
        have hm2 : nxt ks.gen % 2 < 2 := by omega
        have HRt := Lib.hid (fun wx => root_any (nxt ks.gen) hg2 wx)
        have HSu := Lib.hid (fun wx (hb : Below w6.heap.size w6 wx) gx (h1 : w6.heap.size ≤ gx) (h2 : gx < wx.heap.size) (hc : wx.cell? ⟨gx, 0, none⟩ = some (.int .i64 ((nxt ks.gen % 2 : Nat) : Int))) =>
          show Calls Tryz.prog 20 #[.pointer (some ⟨F.b, 0, none⟩), .string (rootB (nxt ks.gen)), .slice (some ⟨gx, 0, none⟩) 1 1] wx (fun e w8 => e = .returned (.int .i64 q3) ∧ ∃ F3, KJS base F F3 st3 J js K ks J3 j2 w w8) from by
            have s6 := HS6.out.below hb
            have := sure1 s6.j.raw (rootB (nxt ks.gen)) (by rw [rootB_size]; omega) gx (nxt ks.gen % 2) 1 1 rfl (fun hf => by have := HS6.out.j.raw.inb _ hf; omega) h2 hc (by omega) (by omega)
            rw [hq3, hb6] at this
            refine this.mono ?_
            rintro e w8 ⟨he, hs⟩
            exact ⟨he, KJS.plate H.out s6 hs hl3⟩)
        clear HR4
        have HKP := Lib.hid (fun wx (hb : Below w6.heap.size w6 wx) => (hb.cell (p := ⟨K.b, 0, none⟩) hKb6).trans k0)
        have hwm : IntKind.i64.wrap ((nxt ks.gen % 2 : Nat) : Int) = ((nxt ks.gen % 2 : Nat) : Int) := IntWalk.i64_in _ (by omega)
        have hbd : Below w6.heap.size w6 w6.drew := (Below.refl _ _).drew
        go_wp2_with fail
        generalize hgm : nxt ks.gen % 2 = gm at *
        have hba : ∀ o, Below w6.heap.size w6 (w6.alloc o).drew := fun o => ((Below.refl _ _).alloc (Nat.le_refl _) _).drew
        go_region_held3 (fun wx => wx.cell? ⟨K.b, 0, none⟩ = some (.pointer (some ⟨F.b, 0, none⟩)))
          (first | exact HKP.out _ hbd | exact HKP.out _ (hba _) | assumption | exact HKP.out _ hbz | exact HKP.out _ (hbz.alloc hbz.size _))
          (first
            | (go_at_call 24; refine (HRt.out _).mono ?_; rintro e w7 ⟨rfl, hb7⟩; have hbz : Below w6.heap.size w6 w7 := (by first | with_reducible exact chain hbd hb7 | with_reducible exact chain (hba _) hb7))
            | (go_at_call 20; first | with_reducible refine (HSu.out _ (hbz.alloc hbz.size _) w7.heap.size hbz.size (by simp) (by simp [go_sem])).mono ?_ | (have hcz := (hb7.cell (p := ⟨w6.heap.size, 0, none⟩) (by simp)).trans (show _ = some (.int .i64 (gm : Int)) by simp [go_sem]); have hzz := hb7.size; with_reducible refine (HSu.out w7 hbz w6.heap.size (Nat.le_refl _) (by rw [World.size_drew, World.size_alloc] at hzz; omega) hcz).mono ?_)
               rintro e w8 ⟨rfl, F3, hS8⟩; have kx := hS8.k.cells.1; rw [hS8.b] at kx; have HS8 := Lib.hid hS8; clear hS8))
        all_goals
          clear HSu HRt HKP hba hbd HS6
          have hlo3' : st3.lo.length ≤ 300000 := by omega
          by_cases e3 : q3 = 0
          · subst e3
            have HR6 : Hid (anew4 st3 js ks j2 (nxt ks.gen) = R) := Lib.hid (by rw [← HR5.out]; rfl)
            obtain ⟨⟨st4, q4⟩, hq4⟩ : ∃ q, runOps st3 (sureOps emB [1 - nxt ks.gen % 2]) = q := ⟨_, rfl⟩
            have hl4 := runOps_len (sureOps emB [1 - nxt ks.gen % 2]) st3
            rw [hq4] at hl4
            simp only at hl4
            have HR7 : Hid ((if q4 = 0 then ⟨st4, j2, { ks with gen := nxt ks.gen }, 0⟩ else ⟨st4, js, ks.die, q4⟩) = R) := Lib.hid (by rw [← HR6.out, anew4, hq4])
            have hK8 := HS8.out.k.lt
            have hb8 := HS8.out.b
            have e1m : (1 : Int) - (gm : Int) = ((1 - gm : Nat) : Int) := by omega
            have hwm2 : IntKind.i64.wrap ((1 - gm : Nat) : Int) = ((1 - gm : Nat) : Int) := IntWalk.i64_in _ (by omega)
            rw [hgm] at hq4
            have HS9 := Lib.hid (show Calls Tryz.prog 20 #[.pointer (some ⟨F.b, 0, none⟩), .string ⟨#[]⟩, .slice (some ⟨w8.heap.size, 0, none⟩) 1 1] (w8.alloc (.cells #[.int .i64 ((1 - gm : Nat) : Int)] 3)) (fun e w9 => e = .returned (.int .i64 q4) ∧ ∃ F4, KJS base F F4 st4 J js K ks J3 j2 w w9) from by
              have s8 := HS8.out.below ((Below.refl _ w8).alloc (Nat.le_refl _) (.cells #[.int .i64 ((1 - gm : Nat) : Int)] 3))
              have := sure1 s8.j.raw emB (by decide) w8.heap.size (1 - gm) 1 1 rfl (fun hf => by have := HS8.out.j.raw.inb _ hf; omega) (by simp) (by simp [go_sem]) (by omega) (by omega)
              rw [hq4, hb8] at this
              refine this.mono ?_
              rintro e w9 ⟨he, hs⟩
              exact ⟨he, KJS.plate H.out s8 hs hl4⟩)
            obtain ⟨k0, k1, k2, k3, k4⟩ := HS8.out.k.cells
            rw [hb8] at k0
            clear HS8 HR5 HR6
            go_wp2_with fail
            refine HS9.out.mono ?_
            rintro e w9 ⟨rfl, F4, hS9⟩
            obtain ⟨k0, k1, k2, k3, k4⟩ := hS9.k.cells
            have k4f := hS9.k.free 4
            have k2f := hS9.k.free 2
            have k3f := hS9.k.free 3
            by_cases e4 : q4 = 0
            · subst e4
              have e : R = ⟨st4, j2, { ks with gen := nxt ks.gen }, 0⟩ := by rw [← HR7.out]; rfl
              subst e
              have HD := Lib.hid (hS9.done H.out hg2)
              rw [hjb] at HD
              clear hS9
              go_wp2_with fail
              go_ret
              exact HD.out
            · have e : R = ⟨st4, js, ks.die, q4⟩ := by rw [← HR7.out, if_neg e4]
              subst e
              have e4' : (q4 == 0) = false := by simpa using e4
              have HD := Lib.hid (hS9.die q4)
              clear hS9
              go_wp2_with fail
              go_ret
              exact HD.out
          · have e : R = ⟨st3, js, ks.die, q3⟩ := by rw [← HR5.out, if_neg e3]
            subst e
            have e3' : (q3 == 0) = false := by simpa using e3
            have k4 := HS8.out.k.cells.2.2.2.2
            have k4f := HS8.out.k.free 4
            have HD := Lib.hid (HS8.out.die q3)
            clear HS8
            go_wp2_with fail
            go_ret
            exact HD.out
      · have e : R = ⟨st2, js, ks.die, q2⟩ := by rw [← HR3.out, if_neg e2]
        subst e
        have e2' : (q2 == 0) = false := by simpa using e2
        have HD := Lib.hid (hS6.die q2)
        clear hS6
        go_wp2_with fail
        go_ret
        exact HD.out
    · have e : R = ⟨st1, js, ks.die, q1⟩ := by rw [← HR1.out, anew1, hq]; simp [e1]
      subst e
      have e1' : (q1 == 0) = false := by simpa using e1
      have HF2 := Lib.hid (HFm.out.mono (R' := fun e w5 => e = .returned (.tuple #[.pointer none, .int .i64 q1]) ∧ PlS base F st1 w1.drew w5) (fun e w5 hp => by
        unfold MadePost at hp
        rw [if_neg e1] at hp
        exact hp))
      clear HFm HR1 hRd
      go_region_held3 (fun wx => wx.cell? ⟨K.b, 0, none⟩ = some (.pointer (some ⟨F.b, 0, none⟩)))
        (first | exact HKC.out | assumption)
        (first
          | (go_at_call 22; refine HPl.out.mono ?_; rintro e w2 ⟨rfl, rfl⟩)
          | (go_at_call 23; refine HHf.out.mono ?_; rintro e w2 ⟨rfl, rfl⟩)
          | (go_at_call 21; refine HF2.out.mono ?_; rintro e w5 ⟨rfl, hS⟩; have kx := hS.cell HKC.out HKW.out.lt (hkl K.b (.inr (.inr (.inl rfl)))).1; have HS := Lib.hid hS; clear hS))
      obtain ⟨k0, k1, k2, k3, k4⟩ := HKW.out.cells
      have hK5 := hkl K.b (.inr (.inr (.inl rfl)))
      have m4 := HS.out.cell k4 HKW.out.lt hK5.1
      have m4f : w5.frozen? ⟨K.b, 4, none⟩ = false := by
        obtain ⟨F', hR', hb', hf', hk'⟩ := HS.out
        exact (hk'.frozen (p := ⟨K.b, 4, none⟩) HKW.out.lt hK5.1).trans (HKW.out.free 4)
      have HD := Lib.hid (PlS.die H.out (HS.out.back hBW) hl1 q1)
      clear HS HF2 HPl HHf HKW HKC k0 k1 k2 k3 k4 hkl
      go_wp2_with fail
      go_ret
      exact HD.out
end Go.Proofs.YtdebfnlnpfienaaGreatDoor
