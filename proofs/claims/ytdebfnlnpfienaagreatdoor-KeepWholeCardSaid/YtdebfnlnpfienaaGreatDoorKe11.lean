/- A keep made on a plate. -/
import Derived.Test.YtdebfnlnpfienaaGreatDoorKe10
namespace Go.Proofs.YtdebfnlnpfienaaGreatDoor
open Go.RowKit Lift Go.Maps
set_option linter.unusedSimpArgs false
set_option linter.unusedVariables false

def formR (st : St) : St × Int :=
  if (runOps st (sureOps emB [0, 1])).2 = 0 then
    (if (runOps (runOps st (sureOps emB [0, 1])).1 (clearOps (plcN st 0))).2 = 0 then runOps (runOps (runOps st (sureOps emB [0, 1])).1 (clearOps (plcN st 0))).1 (sureOps (rootB 0) [0])
     else runOps (runOps st (sureOps emB [0, 1])).1 (clearOps (plcN st 0)))
  else runOps st (sureOps emB [0, 1])
def KSt.new : KSt := { kv := [], gen := 0, dead := false, cnt := 0 }
/-- What making a keep leaves. -/
def KMade (base : Nat) (F : Fp) (st : St) (er : Int) (js : JSt) (ks : KSt) (w : World) (e : Ending) (w' : World) : Prop :=
  if er = 0 then ∃ F' J K, e = .returned (.tuple #[.pointer (some ⟨K.b, 0, none⟩), .int .i64 0]) ∧ KRaw base w' F' st J js K ks ∧ F'.b = F.b ∧ (∀ k, kfoot F' J K k → foot F k ∨ w.heap.size ≤ k) ∧ Kept (foot F) w w'
  else e = .returned (.tuple #[.pointer none, .int .i64 er]) ∧ PlS base F st w w'
theorem sl_two {w : World} {S : Nat → Prop} {g : Nat} {x y : Nat} (h : w.cell? ⟨g, 0, none⟩ = some (.int .i64 x)) (h2 : w.cell? ⟨g, 1, none⟩ = some (.int .i64 y)) (hs : S g) (hg : g < w.heap.size) (hx : x ≤ 1000000) (hy : y ≤ 1000000) : SlAt (Rd.int .i64) S w (some ⟨g, 0, none⟩) ([x, y].map fun n : Nat => (n : Int)) := by
  refine .inr ⟨g, 0, rfl, hs, hg, fun k c hk => ?_⟩
  match k, hk with
  | 0, hk =>
    simp at hk; subst hk
    refine ⟨[.int .i64 x], ⟨rfl, Wf.of (by omega) (by omega)⟩, fun i v hi => ?_⟩
    match i, hi with
    | 0, hi => simp at hi; subst hi; simpa [Rd.int] using h
  | 1, hk =>
    simp at hk; subst hk
    refine ⟨[.int .i64 y], ⟨rfl, Wf.of (by omega) (by omega)⟩, fun i v hi => ?_⟩
    match i, hi with
    | 0, hi => simp at hi; subst hi; simpa [Rd.int] using h2
  | k + 2, hk => simp at hk
/-- A keep without keys over a fresh journal. -/
theorem KRaw.made {base : Nat} {w : World} {F : Fp} {st : St} {J : JF} {js : JSt} (h : JRaw base w F st J js) (hb : base ≤ w.heap.size) :
    KRaw base ((w.alloc (.map #[] 0)).alloc (.cells #[.pointer (some ⟨F.b, 0, none⟩), .map (some w.heap.size), .int .u32 0, .pointer (some ⟨J.b, 0, none⟩), .bool false] 68)) F st J js ⟨w.heap.size + 1, w.heap.size⟩ KSt.new where
  jr := h.below (((Below.refl _ _).alloc (Nat.le_refl _) _).alloc (by simp) _)
  blk := by
    have := heap_alloc_new (w.alloc (.map #[] 0)) (.cells #[.pointer (some ⟨F.b, 0, none⟩), .map (some w.heap.size), .int .u32 0, .pointer (some ⟨J.b, 0, none⟩), .bool false] 68)
    rw [World.size_alloc] at this
    exact this
  map := SMap.eqf (SMap.below (SMap.made _ _ _ w) ((Below.refl _ _).alloc (Nat.le_refl _) _)) (fun x _ => rfl)
  rise := List.Pairwise.nil
  sz := fun p hp => by cases hp
  kl := Nat.le_refl _
  cn := by decide
  gn := by decide
  bb := by show base ≤ w.heap.size + 1; omega
  mm := hb
  ne := by show w.heap.size + 1 ≠ w.heap.size; omega
  n1 := fun hh => by have := h.inb _ hh; simp only at this; omega
  n2 := fun hh => by have := h.inb _ hh; simp only at this; omega
set_option maxHeartbeats 4000000 in
set_option maxRecDepth 100000 in
theorem kformat_any {base : Nat} {w : World} {F : Fp} {st : St} (h : Raw base w F st) (hn : 10 ≤ st.no.length) (hlo : st.lo.length ≤ 100000) :
    Calls Tryz.prog 7 #[.pointer (some ⟨F.b, 0, none⟩)] w (KMade base F (formR st).1 (formR st).2 (JSt.new (plcN st 0) (halfN st) 0) KSt.new w) := by
  have hn2 := h.n2
  have hlt := h.inb F.b (.inl rfl)
  have HSz := Lib.hid (size_any h)
  have H := Lib.hid h
  obtain ⟨⟨st1, q1⟩, hq1⟩ : ∃ q, runOps st (sureOps emB [0, 1]) = q := ⟨_, rfl⟩
  have hl1 := runOps_len (sureOps emB [0, 1]) st
  have hlo1 := runOps_lo (sureOps emB [0, 1]) st
  have h30 : (sureOps emB [0, 1]).length = 3 := rfl
  rw [hq1] at hl1 hlo1
  simp only at hl1 hlo1
  have HS1 := Lib.hid (show Calls Tryz.prog 20 #[.pointer (some ⟨F.b, 0, none⟩), .string ⟨#[]⟩, .slice (some ⟨w.heap.size, 0, none⟩) 2 2] (w.alloc (.cells #[.int .i64 0, .int .i64 1] 3)) (fun e w9 => e = .returned (.int .i64 q1) ∧ PlS base F st1 w w9) from by
    have hb := (Below.refl w.heap.size w).alloc (Nat.le_refl _) (.cells #[.int .i64 0, .int .i64 1] 3)
    have := sure_any (h.below hb) emB (by decide) (some ⟨w.heap.size, 0, none⟩) 2 [0, 1] (by decide) (sl_two (x := 0) (y := 1) (by simp [go_sem]) (by simp [go_sem]) (fun hf => by have := h.inb _ hf; omega) (by simp) (by omega) (by omega)) (by omega)
    rw [hq1] at this
    refine this.mono ?_
    rintro e w9 ⟨he, hs⟩
    exact ⟨he, hs.back hb⟩)
  have hd10 : ¬ (st.no.length : Int) < 10 := by omega
  obtain ⟨R, hR⟩ : ∃ R, formR st = R := ⟨_, rfl⟩
  have HR : Hid ((if q1 = 0 then (if (runOps st1 (clearOps (plcN st 0))).2 = 0 then runOps (runOps st1 (clearOps (plcN st 0))).1 (sureOps (rootB 0) [0]) else runOps st1 (clearOps (plcN st 0))) else (st1, q1)) = R) := Lib.hid (by rw [← hR, formR, hq1])
  rw [hR]
  clear hR h hq1
  go_enter Tryz.func7, Tryz.ntmps7
  go_wp2_with fail
  refine HSz.out.mono ?_
  rintro e w1 ⟨rfl, rfl⟩
  go_wp2_with fail
  refine HS1.out.mono ?_
  rintro e w2 ⟨rfl, hs2⟩
  obtain ⟨F2, hR2, hb2, hf2, hk2⟩ := hs2
  have HS2 := Lib.hid (show PlS base F st1 w w2 from ⟨F2, hR2, hb2, hf2, hk2⟩)
  by_cases e1 : q1 = 0
  · subst e1
    obtain ⟨⟨st2, q2⟩, hq2⟩ : ∃ q, runOps st1 (clearOps (plcN st 0)) = q := ⟨_, rfl⟩
    have hl2 := runOps_len (clearOps (plcN st 0)) st1
    have hlo2 := runOps_lo (clearOps (plcN st 0)) st1
    have h32 : (clearOps (plcN st 0)).length = 2 := rfl
    rw [hq2] at hl2 hlo2
    simp only at hl2 hlo2
    have hpe : plcN st1 0 = plcN st 0 := by unfold plcN halfN; rw [hl1]
    have hhe : halfN st1 = halfN st := by unfold halfN; rw [hl1]
    have hhf : 4 ≤ halfN st := by unfold halfN; omega
    have hpl : 2 ≤ plcN st 0 ∧ plcN st 0 + halfN st ≤ st.no.length := by unfold plcN halfN; omega
    have HPl := Lib.hid (place2_any hR2 (by omega) 0 (by omega))
    have HHf := Lib.hid (half_any hR2 (by omega))
    have HFm := Lib.hid (format_any hR2 (plcN st 0) (halfN st) 0 (by omega) (by omega) (by omega) hR2.base_le (by omega))
    rw [hpe, hb2] at HPl
    rw [hhe, hb2] at HHf
    rw [hq2, hb2] at HFm
    have HR2 : Hid ((if q2 = 0 then runOps st2 (sureOps (rootB 0) [0]) else (st2, q2)) = R) := Lib.hid (by rw [← HR.out, if_pos rfl, hq2])
    clear HR
    go_wp2_with fail
    refine HPl.out.mono ?_
    rintro e w3 ⟨rfl, rfl⟩
    go_wp2_with fail
    refine HHf.out.mono ?_
    rintro e w4 ⟨rfl, rfl⟩
    by_cases e2 : q2 = 0
    · subst e2
      have HF2 := Lib.hid (HFm.out.mono (R' := fun e w5 => ∃ F3 J, e = .returned (.tuple #[.pointer (some ⟨J.b, 0, none⟩), .int .i64 0]) ∧ JRaw base w5 F3 st2 J (JSt.new (plcN st 0) (halfN st) 0) ∧ F3.b = F.b ∧ (∀ k, jfoot F3 J k → foot F k ∨ w.heap.size ≤ k) ∧ Kept (foot F) w w5) (fun e w5 hp => by
        unfold MadePost at hp
        rw [if_pos rfl] at hp
        obtain ⟨F3, J, he, hJ, hb, hf, hk⟩ := hp
        have hz := hk2.size
        refine ⟨F3, J, he, hJ, hb.trans hb2, fun k hh => ?_, hk2.trans hk (fun _ _ h => h) (fun k hkw hx => ?_)⟩
        · rcases hf k hh with h | h
          · exact hf2 k h
          · exact .inr (by omega)
        · rcases hf2 k hx with h | h
          · exact h
          · omega))
      clear HFm HPl HHf hR2 hf2 hk2 HS2
      go_wp2_with fail
      refine HF2.out.mono ?_
      rintro e w5 ⟨F3, J, rfl, hJ, hb3, hf3, hk3⟩
      have HRt := Lib.hid (root_any 0 (by omega) w5)
      obtain ⟨⟨st3, q3⟩, hq3⟩ : ∃ q, runOps st2 (sureOps (rootB 0) [0]) = q := ⟨_, rfl⟩
      have hl3 := runOps_len (sureOps (rootB 0) [0]) st2
      rw [hq3] at hl3
      simp only at hl3
      have HR3 : Hid ((st3, q3) = R) := Lib.hid (by rw [← HR2.out]; simp [hq3])
      clear HR2 HF2
      go_wp2_with fail
      refine HRt.out.mono ?_
      rintro e w6 ⟨rfl, hb6⟩
      have HS9 := Lib.hid (show Calls Tryz.prog 20 #[.pointer (some ⟨F.b, 0, none⟩), .string (rootB 0), .slice (some ⟨w6.heap.size, 0, none⟩) 1 1] (w6.alloc (.cells #[.int .i64 0] 3)) (fun e w9 => e = .returned (.int .i64 q3) ∧ PlS base F3 st3 w5 w9) from by
        have hb := chain hb6 ((Below.refl w6.heap.size w6).alloc (Nat.le_refl _) (.cells #[.int .i64 0] 3))
        have := sure1 (hJ.raw.below hb) (rootB 0) (by rw [rootB_size]; omega) w6.heap.size 0 1 1 rfl (fun hf => by have := hJ.raw.inb _ hf; have := hb6.size; omega) (by simp) (by simp [go_sem]) (by omega) (by omega)
        rw [hq3, hb3] at this
        refine this.mono ?_
        rintro e w9 ⟨he, hs⟩
        exact ⟨he, hs.back hb⟩)
      have HJ := Lib.hid hJ
      have HF3 := Lib.hid hf3
      have HK3 := Lib.hid hk3
      clear hJ hf3 hk3 HRt
      go_wp2_with fail
      refine HS9.out.mono ?_
      rintro e w9 ⟨rfl, hs9⟩
      obtain ⟨F4, hR4, hb4, hf4, hk4⟩ := hs9
      have hz3 := HK3.out.size
      have HP4 := Lib.hid (show PlS base F st3 w w9 from ⟨F4, hR4, hb4.trans hb3, fun k hh => by
          rcases hf4 k hh with h | h
          · exact HF3.out k (.inl h)
          · exact .inr (by omega), HK3.out.trans hk4 (fun _ _ h => h) (fun k hkw hx => by
          rcases HF3.out k (.inl hx) with h | h
          · exact h
          · omega)⟩)
      by_cases e3 : q3 = 0
      · subst e3
        have hj4 := HJ.out.plate hR4 hb4 hf4 hk4 hl3
        have hKm := KRaw.made hj4 hj4.raw.base_le
        have hj4s := hj4.inb
        have e : R = (st3, 0) := HR3.out.symm
        subst e
        have HFin := Lib.hid (show KMade base F st3 0 (JSt.new (plcN st 0) (halfN st) 0) KSt.new w (.returned (.tuple #[.pointer (some ⟨w9.heap.size + 1, 0, none⟩), .int .i64 0])) ((w9.alloc (.map #[] 0)).alloc (.cells #[.pointer (some ⟨F.b, 0, none⟩), .map (some w9.heap.size), .int .u32 0, .pointer (some ⟨J.b, 0, none⟩), .bool false] 68)) from by
          unfold KMade
          rw [if_pos rfl]
          rw [hb4.trans hb3] at hKm
          have hz4 := hk4.size
          refine ⟨F4, J, ⟨w9.heap.size + 1, w9.heap.size⟩, rfl, hKm, hb4.trans hb3, fun k hh => ?_, ?_⟩
          · rcases hh with (hh | hh) | rfl | rfl
            · rcases hf4 k hh with h | h
              · exact HF3.out k (.inl h)
              · exact .inr (by omega)
            · exact HF3.out k (.inr hh)
            · exact .inr (by show w.heap.size ≤ w9.heap.size + 1; omega)
            · exact .inr (by show w.heap.size ≤ w9.heap.size; omega)
          · obtain ⟨_, _, _, _, h⟩ := HP4.out
            exact (h.new).new)
        clear hKm hj4 hR4 HJ HP4 hk4
        have hmm := @run_makeMap Tryz.prog
        go_wp2_with fail
        go_ret2
        exact HFin.out
      · have e3' : (q3 == 0) = false := by simpa using e3
        have e : R = (st3, q3) := HR3.out.symm
        subst e
        clear hR4 HJ hk4
        go_wp2_with fail
        go_ret2
        unfold KMade
        rw [if_neg e3]
        exact ⟨rfl, HP4.out⟩
    · have e2' : (q2 == 0) = false := by simpa using e2
      have e : R = (st2, q2) := by rw [← HR2.out, if_neg e2]
      subst e
      have HF2 := Lib.hid (HFm.out.mono (R' := fun e w5 => e = .returned (.tuple #[.pointer none, .int .i64 q2]) ∧ PlS base F st2 w w5) (fun e w5 hp => by
        unfold MadePost at hp
        rw [if_neg e2] at hp
        exact ⟨hp.1, PlS.on hb2 hf2 hk2 hp.2⟩))
      clear HFm HPl HHf hR2 hf2 hk2 HS2
      go_wp2_with fail
      refine HF2.out.mono ?_
      rintro e w5 ⟨rfl, hs5⟩
      have HS5 := Lib.hid hs5
      clear hs5
      go_wp2_with fail
      go_ret2
      unfold KMade
      rw [if_neg e2]
      exact ⟨rfl, HS5.out⟩
  · have e1' : (q1 == 0) = false := by simpa using e1
    have e : R = (st1, q1) := by rw [← HR.out, if_neg e1]
    subst e
    clear hR2 hk2 hf2
    go_wp2_with fail
    go_ret2
    unfold KMade
    rw [if_neg e1]
    exact ⟨rfl, HS2.out⟩
end Go.Proofs.YtdebfnlnpfienaaGreatDoor
