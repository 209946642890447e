/- JournalWhole holds: wherever the power goes in an Append and in openings behind it, whatever is kept of each write, the journal has the records that were answered OK, or besides them the one that was under way; and goes on. The row lists Go's own tables of UTF-8, tied to the program's text by the card. -/
import Derived.Test.YtaljgcdjkmpljaaDoorCard
import Derived.Test.YtaljgcdjkmpljaaDoorJnG
import Derived.PinnedBridge
import Derived.SevenTiedAt
namespace Go.Proofs.YtaljgcdjkmpljaaDoor
open Go.ChangeShapes Go.WideShapes Go.ChangeAt Go.RowKit Lift
open Go.ChangeMaps (open_string shut_string)
set_option linter.unusedSimpArgs false
set_option linter.unusedVariables false

theorem at_22 : Rd.str.slice.at Tryd.prog 22 := Rd.at_slice Tryd.underlying22 (by kernel_rfl) rStr_at (by decide)
theorem rInts_at : (Rd.int .i64).slice.at Tryd.prog 43 := Rd.at_slice Tryd.underlying43 (by kernel_rfl) (Rd.at_int Tryd.underlying3 (by kernel_rfl)) (by decide)
abbrev rCut : Rd (List Int × List Int) := (Rd.int .i64).slice.pair (Rd.int .i64).slice
theorem at_45 : rCut.at Tryd.prog 45 :=
  Rd.at_struct Tryd.underlying45 (by kernel_rfl) (Rd.atF_cons rInts_at rfl (Rd.atF_one rInts_at rfl))
theorem cut_arg {w : World} {cs : Array Value} {p : List Int × List Int} (h : rCut.rel (· < w.heap.size) w cs.toList p) :
    ∃ fo fc ko kc, cs = #[.slice fo p.1.length fc, .slice ko p.2.length kc] ∧ SlAt (Rd.int .i64) (· < w.heap.size) w fo p.1 ∧ SlAt (Rd.int .i64) (· < w.heap.size) w ko p.2 ∧ p.1.length ≤ maxLen ∧ p.2.length ≤ maxLen := by
  obtain ⟨c1, d1, h1, ⟨ao1, cap1, rfl, a2, a3, a4, a5⟩, ⟨ao2, cap2, rfl, b2, b3, b4, b5⟩⟩ := h
  refine ⟨ao1, cap1, ao2, cap2, ?_, a5, b5, by omega, by omega⟩
  exact Array.toList_inj.1 (by rw [h1]; rfl)
theorem int_get {S : Nat → Prop} {w : World} {ao : Option Addr} {l : List Int} (h : SlAt (Rd.int .i64) S w ao l) {k : Nat} {c : Int} (hk : l[k]? = some c) : ∃ b off, ao = some ⟨b, off, none⟩ ∧ S b ∧ b < w.heap.size ∧ w.cell? ⟨b, off + k, none⟩ = some (.int .i64 c) := by
  obtain ⟨b, off, cs, rfl, hS, hlt, ⟨rfl, _⟩, hc⟩ := h.get hk
  exact ⟨b, off, rfl, hS, hlt, by have := hc 0 _ rfl; simpa [Rd.int] using this⟩
set_option maxHeartbeats 8000000 in
set_option maxRecDepth 100000 in
theorem law_whole (ao : Option Addr) (cap : Nat) (l : List ByteArray) (s : ByteArray) (cs : Array Value) (pc : List Int × List Int) (w : World) (h : SlArg Rd.str w ao cap l) (hc : rCut.rel (· < w.heap.size) w cs.toList pc) : Calls Tryd.prog 5 #[.slice ao l.length cap, .string s, .agg cs] w (TruePost w) := by
  have hll : l.length ≤ maxLen := Nat.le_trans h.le h.max
  have hl := h.at'
  obtain ⟨fo, fc, ko, kc, rfl, hfl, hkl, hfn, hkn⟩ := cut_arg hc
  obtain ⟨fs, K⟩ := pc
  simp only at hfl hkl hfn hkn ⊢
  obtain ⟨W0, hW0⟩ : ∃ W0, w.alloc (.cells #[.slice fo fs.length fc, .slice ko K.length kc] 45) = W0 := ⟨_, rfl⟩
  have hb0 : Below w.heap.size w W0 := by rw [← hW0]; exact (Below.refl _ _).alloc (Nat.le_refl _) _
  have c0 : W0.cell? ⟨w.heap.size, 0, none⟩ = some (.slice fo fs.length fc) := by rw [← hW0]; simp [go_sem]
  have c1 : W0.cell? ⟨w.heap.size, 1, none⟩ = some (.slice ko K.length kc) := by rw [← hW0]; simp [go_sem]
  have HB := Lib.hid (fun W (hb : Below w.heap.size w W) => begun_any ao cap l W (hl.old hb).here hll)
  have hinv : BInv (begL (l.take 10)).1 (begL (l.take 10)).2 := begL_inv _ beg0_inv
  have hrl := beg_le l
  obtain ⟨p, hp⟩ : ∃ p, begL (l.take 10) = p := ⟨_, rfl⟩
  rw [hp] at HB hinv hrl
  have HINV := Lib.hid hinv
  clear hp hinv h hc hll hl
  unfold maxLen at hfn hkn
  obtain ⟨i0, hi, hz0, hz1, hz2⟩ := str_info0
  have HI := Lib.hid hi; have HZ0 := Lib.hid hz0; have HZ1 := Lib.hid hz1; have HZ2 := Lib.hid hz2
  clear hi hz0 hz1 hz2
  go_enter Tryd.func5, Tryd.ntmps5
  go_wp2_with fail
  (refine wp_region_quiet_lit (by kernel_rfl) (by kernel_rfl) ?_; (repeat (any_goals (first | go_big_quiet_step (fail) | quiet_step (fail) | (refine wpQuiet_step (fun K hK => ?_); go_simp; split <;> (refine hK _ ?_; clear hK K))))); all_goals (refine wpQuiet_nil ?_; intro _ hw'; obtain ⟨nq, hw''⟩ := hw'; subst hw''))
  go_wp2_with fail
  have hbq : Below w.heap.size w (W0.drewN nq) := bN _ hb0
  refine (works_any _).mono ?_
  rintro e w1 ⟨rfl, hb1⟩
  have hB1 := chain hbq hb1
  clear hb0 hbq hb1 c0 c1 hW0
  go_wp2_with fail
  refine (HB.out _ hB1).mono ?_
  rintro e w2 ⟨F, J, ao2, cap2, rfl, hT, hb2⟩
  have hs1 := hB1.size
  have hB2 := chain hB1 hb2
  have HT := Lib.hid hT
  clear hT HB hb2 hB1
  by_cases hs600 : s.size ≤ 600
  case neg =>
    have hd : decide ((600 : Int) < (s.size : Int)) = true := by simp; omega
    go_wp2_with fail
    go_ret
    exact ⟨rfl, hB2⟩
  have hd : decide ((600 : Int) < (s.size : Int)) = false := by simp; omega
  by_cases hk100 : K.length ≤ 100
  case neg =>
    have hd2 : decide ((100 : Int) < (K.length : Int)) = true := by simp; omega
    go_wp2_with fail
    go_ret
    exact ⟨rfl, hB2⟩
  have hd2 : decide ((100 : Int) < (K.length : Int)) = false := by simp; omega
  by_cases hf0 : fs.length = 0
  case pos =>
    have hd3 : ((fs.length : Int) == 0) = true := by rw [hf0]; rfl
    go_wp2_with fail
    go_ret
    exact ⟨rfl, hB2⟩
  have hd3 : ((fs.length : Int) == 0) = false := by simp; intro h; rw [h] at hf0; exact hf0 rfl
  have hf0i : (0 : Int) < (fs.length : Int) := by omega
  obtain ⟨x0, hx0⟩ := some_at (l := fs) (k := 0) (by omega)
  obtain ⟨bf, of, rfl, hfS, hfb, hfc⟩ := int_get (hfl.old hB2) hx0
  rw [Nat.add_zero] at hfc
  obtain ⟨m0, hm1, hm2, hm3, hm4⟩ := mod_index x0 16 (by omega) (by omega)
  have hm2' : IntKind.u64.wrap 16 = 16 := hm2
  have hm3' : (IntKind.u64.wrap x0).tmod 16 = (m0 : Int) := hm3
  have hoff := HINV.out.jn.hf.off
  have hq : (-9223372036854775808 ≤ (m0 : Int) ∧ (m0 : Int) ≤ 9223372036854775807) ∧ max (m0 : Int) (-1) = (m0 : Int) := by clear hm2 hm3 hm4 hm2' hm3' hfn hkn; omega
  have HFU := Lib.hid (HT.out.fuse (m0 : Int) hq.1.1 hq.1.2 hoff)
  rw [hq.2] at HFU
  clear hq
  clear hm2 hm3 hx0 HT
  go_wp2_with fail
  refine HFU.out.mono ?_
  rintro e w3 ⟨rfl, hT3, hb3⟩
  have hB3 := hB2.trans (hb3.mono hs1)
  have HA := Lib.hid (append_any hT3.jr s (by unfold maxTx; omega) (by show p.1.lo.length ≤ _; rw [HINV.out.jn.hf.lo]; simp))
  have HFALL := Lib.hid (app_fall HINV.out (m0 : Int) s hs600 K)
  have HT3 := Lib.hid hT3
  clear HFU hT3 hb3 hB2 hm1 hm2' hm3' hm4 hfc
  obtain ⟨er, her⟩ : ∃ er, appE (wf p.1 (m0 : Int) false) p.2 s = er := ⟨_, rfl⟩
  obtain ⟨st3, hst3⟩ : ∃ st3, appS (wf p.1 (m0 : Int) false) p.2 s = st3 := ⟨_, rfl⟩
  rw [her, hst3] at HA HFALL
  clear her hst3
  go_wp2_with fail
  refine HA.out.mono ?_
  intro e w4 hp
  obtain ⟨rfl, F4, J4, hT4, hF4, hJ4, hb4⟩ := HT3.out.post hp
  have hB4 := hB3.trans (hb4.mono hs1)
  have HD4 := Lib.hid hT4.duo
  obtain ⟨pb, hpb⟩ : ∃ x, F.b = x := ⟨_, rfl⟩
  rw [hpb] at hF4
  rw [hpb]
  clear HA HT3 hp hT4 hb4 hB3 hJ4
  go_wp2_with fail
  go_loopw [13, 14, 15] (fun v13 v14 v15 wr => ∃ (k : Nat) (F : Fp) (st : St), v15 = .int .i64 k ∧ 1 ≤ k ∧ k ≤ 6 ∧ F.b = pb ∧ Below w.heap.size w wr ∧
    ((v14 = .int .i64 12 ∧ v13 = .pointer none ∧ Hid (Duo w1.heap.size wr F st (.slice ao2 p.2.recs.length cap2) p.2.recs) ∧ Hid (Fall K p.2.recs s er st)) ∨
     (∃ (J : JF) (js : JSt), v14 = .int .i64 0 ∧ v13 = .pointer (some ⟨J.b, 0, none⟩) ∧ Hid (Trio w1.heap.size wr F st J js (.slice ao2 p.2.recs.length cap2) p.2.recs) ∧ Hid (Stand p.2.recs s er st js)))) (fun _ _ v15 _ => 7 - (intOf v15).toNat)
  case atStart => exact ⟨1, F4, st3, rfl, by omega, by omega, hF4, hB4, .inl ⟨rfl, rfl, HD4, HFALL⟩⟩
  case round =>
    clear hB4 hF4 HD4 HFALL
    obtain ⟨k, F, st, rfl, hk1, hk6, rfl, hB, hst⟩ := hrel
    by_cases hgo : (u14 = .int .i64 12) ∧ k < fs.length ∧ k < 6
    · obtain ⟨rfl, hk2, hk3⟩ := hgo
      rcases hst with ⟨_, rfl, hD, hF⟩ | ⟨_, _, h, _⟩
      case inr => cases h
      have hk2i : (k : Int) < (fs.length : Int) := by omega
      have hk3i : (k : Int) < 6 := by omega
      obtain ⟨x, hx⟩ := some_at hk2
      obtain ⟨b', o', e', _, hfb2, hfc⟩ := int_get (hfl.old hB) hx
      injection e' with e'
      injection e' with e1 e2
      subst e1; subst e2
      have hbs := hB.size
      have hbs2 := hD.out.raw.base_le
      have HC := Lib.hid (hD.out.crash (by have := hF.out.lo; omega) ko kc K (by omega) ((hkl.old hB).mono (fun b hb _ => by omega)))
      obtain ⟨mo, hm1, hm2, hm3, hm4⟩ := mod_index x 4 (by omega) (by omega)
      have hm2' : IntKind.u64.wrap 4 = 4 := hm2
      have hm3' : (IntKind.u64.wrap x).tmod 4 = (mo : Int) := hm3
      have hq : (-9223372036854775808 ≤ (mo : Int) ∧ (mo : Int) ≤ 9223372036854775807) ∧ max (mo : Int) (-1) = (mo : Int) := by clear hm2 hm3 hm4 hm2' hm3' hfn hkn; omega
      clear hm1 hm2 hm3 hx hD
      go_wp2_with fail
      refine HC.out.mono ?_
      rintro e wc ⟨rfl, hDc0, hbc⟩
      obtain ⟨Fc, hFc, hDc⟩ : ∃ Fc : Fp, Fc.b = F.b ∧ Duo w1.heap.size wc Fc (crashS st K) (.slice ao2 p.2.recs.length cap2) p.2.recs := ⟨{ F with lv := .slice none 0 0 }, rfl, hDc0⟩
      have hBc := hB.trans (hbc.mono hs1)
      have HFU := Lib.hid (hDc.fuse (mo : Int) hq.1.1 hq.1.2 rfl)
      rw [hFc, hq.2] at HFU
      have hfc2 := (hbc.cell (p := ⟨bf, of + k, none⟩) (Nat.lt_of_lt_of_le hfS hs1)).trans hfc
      have hlt2 := hbc.size
      clear HC hDc0 hDc hq hbc hB hfc
      go_wp2_with fail
      refine HFU.out.mono ?_
      rintro e wd ⟨rfl, hDd, hbd⟩
      have hBd := hBc.trans (hbd.mono hs1)
      have HD := Lib.hid hDd
      have HO := Lib.hid (hDd.open0 (by show (crashS st K).no.length = 40; rw [crash_len, hF.out.len]) (by show (crashS st K).lo.length ≤ _; exact Nat.zero_le _))
      have hop := Lib.hid (hF.out.opened (mo : Int))
      obtain ⟨X, hX⟩ : ∃ X, wf (crashS st K) (mo : Int) false = X := ⟨_, rfl⟩
      rw [hFc] at HO
      rw [hX] at HO hop HD
      clear HFU hDd hX hbd hBc hfc2 hF hm2' hm3' hm4
      go_wp2_with fail
      refine HO.out.mono ?_
      intro e we hM
      rcases hop.out with ⟨h0, hS⟩ | ⟨h0, _, hF2⟩
      · rw [h0] at hM
        rcases HD.out.made hM with ⟨_, Fe, Je, rfl, hTe, hFe, hbe⟩ | ⟨hne, _⟩
        case inr => exact absurd rfl hne
        have hBe := hBd.trans (hbe.mono hs1)
        have HTe := Lib.hid hTe
        have HSe := Lib.hid hS
        clear hM HO HD hTe hS hop hbe hBd
        go_wp2_with fail
        go_roundw
        case measure => simp [intOf]; omega
        case rel => exact ⟨k + 1, Fe, _, by go_num, by omega, by omega, hFe.trans hFc, hBe, .inr ⟨Je, _, rfl, rfl, HTe, HSe⟩⟩
      · rw [h0] at hM
        rcases HD.out.made hM with ⟨h1, _⟩ | ⟨_, Fe, rfl, hDe, hFe, hbe⟩
        case inl => cases h1
        have hBe := hBd.trans (hbe.mono hs1)
        have HDe := Lib.hid hDe
        have HFe := Lib.hid hF2
        clear hM HO HD hDe hF2 hop hbe hBd
        go_wp2_with fail
        go_roundw
        case measure => simp [intOf]; omega
        case rel => exact ⟨k + 1, Fe, _, by go_num, by omega, by omega, hFe.trans hFc, hBe, .inl ⟨rfl, rfl, HDe, HFe⟩⟩
    · have hx : (u14 = .int .i64 12 ∧ ¬ k < fs.length) ∨ (u14 = .int .i64 12 ∧ k < fs.length ∧ k = 6) ∨ u14 ≠ .int .i64 12 := by
        by_cases h1 : u14 = .int .i64 12
        · by_cases h2 : k < fs.length
          · exact .inr (.inl ⟨h1, h2, by have : ¬ k < 6 := fun h3 => hgo ⟨h1, h2, h3⟩; omega⟩)
          · exact .inl ⟨h1, h2⟩
        · exact .inr (.inr h1)
      clear hgo
      rcases hx with ⟨rfl, hk2⟩ | ⟨rfl, hk2, rfl⟩ | hne
      case inl =>
        rcases hst with ⟨_, rfl, hD, hF⟩ | ⟨_, _, h, _⟩
        case inr => cases h
        case inl =>
          have hk2i : ¬ (k : Int) < (fs.length : Int) := by omega
          have hbs := hB.size
          have HC := Lib.hid (hD.out.crash (by have := hF.out.lo; omega) ko kc K (by omega) ((hkl.old hB).mono (fun b hb _ => by omega)))
          clear hD
          go_wp2_with fail
          refine HC.out.mono ?_
          rintro e wc ⟨rfl, hDc0, hbc⟩
          obtain ⟨Fc, hFc, hDc⟩ : ∃ Fc : Fp, Fc.b = F.b ∧ Duo w1.heap.size wc Fc (crashS st K) (.slice ao2 p.2.recs.length cap2) p.2.recs := ⟨{ F with lv := .slice none 0 0 }, rfl, hDc0⟩
          have hBc := hB.trans (hbc.mono hs1)
          have hop := Lib.hid (hF.out.opened (-1))
          have hcr : wf (crashS st K) (-1) false = crashS st K := rfl
          rw [hcr] at hop
          have HO := Lib.hid (hDc.open0 (by rw [crash_len, hF.out.len]) (by show (0 : Nat) ≤ _; omega))
          have HD := Lib.hid hDc
          obtain ⟨X, hX⟩ : ∃ X, crashS st K = X := ⟨_, rfl⟩
          rw [hFc] at HO
          rw [hX] at HO hop HD
          clear HC hDc0 hDc hbc hB hX hcr hF
          go_wp2_with fail
          refine HO.out.mono ?_
          intro e wz hM
          rcases hop.out with ⟨h0, hS⟩ | ⟨_, h0, _⟩
          case inr => omega
          rw [h0] at hM
          rcases HD.out.made hM with ⟨_, Fz, Jz, rfl, hTe, hFe, hbe⟩ | ⟨hne, _⟩
          case inr => exact absurd rfl hne
          have hBz := hBc.trans (hbe.mono hs1)
          have HTz := Lib.hid hTe
          have HSz := Lib.hid hS
          have hFz := hFe.trans hFc
          clear hM HO HD hTe hS hop hbe hBc
          go_wp2_with fail
          obtain ⟨stz, hstz⟩ : ∃ x, (openR X (JSt.new 1 38 7)).1 = x := ⟨_, rfl⟩
          obtain ⟨jsz, hjsz⟩ : ∃ x, openJ X (JSt.new 1 38 7) = x := ⟨_, rfl⟩
          rw [hstz, hjsz] at HTz HSz
          clear hstz hjsz
          have HFU := Lib.hid (HTz.out.fuse (-1) (by omega) (by omega) HSz.out.jn.hf.off)
          try rw [hFz] at HFU
          rw [show max (-1 : Int) (-1) = -1 by decide] at HFU
          refine HFU.out.mono ?_
          rintro e w7 ⟨rfl, hT7, hb7⟩
          have hB7 := hBz.trans (hb7.mono hs1)
          have HS7 := Lib.hid (HSz.out.wf (-1))
          obtain ⟨st7, hst7⟩ : ∃ x, wf stz (-1) false = x := ⟨_, rfl⟩
          rw [hst7] at hT7 HS7
          have hfu7 : st7.fu = -1 := by rw [← hst7]; rfl
          have HBI := Lib.hid (HS7.out.binv hfu7)
          have hrok := HS7.out.rok
          obtain ⟨R, hR⟩ : ∃ R, jsz.recs = R := ⟨_, rfl⟩
          have HR := Lib.hid hR
          have HT7 := Lib.hid hT7
          have HA := Lib.hid (all_any hT7.jr 100 (by omega))
          rw [hR] at HA hrok
          have hR11 : R.length ≤ 11 := by have := hrok.le; omega
          rw [List.take_of_length_le (by omega)] at HA
          clear HFU hT7 hb7 hBz HTz HSz hst7 hfu7 hR HS7
          go_wp2_with fail
          refine HA.out.mono ?_
          rintro e w8 ⟨ao8, cap8, rfl, hO8, hb8⟩
          have hB8 := chain hB7 hb8
          have hs8 := hB8.size
          have HTK := Lib.hid ((HT7.out.below hb8).own)
          have HCK := Lib.hid HTK.out.cap.2.2.2
          have HTG := Lib.hid (HT7.out.swap hO8 hb8)
          have HM := Lib.hid (show SlAt Rd.str (fun b => True ∧ some b ≠ some w8.heap.size) (w8.alloc (.cells #[] 9)) ao2 p.2.recs from (HTK.out.here.mono (fun b h1 h2 => ⟨trivial, by simp; omega⟩)).below ((Below.refl _ _).alloc (Nat.le_refl _) _))
          clear HA HT7 hO8 hB7 hb8
          have hz8 : w8.heap.size ≤ w8.heap.size := Nat.le_refl _
          have hmB := moreB_size
          rcases hrok with ⟨rfl, hRe⟩ | ⟨rfl, hRe⟩ | ⟨rfl, hRe | hRe⟩
          all_goals
            first
              | (have hbw : decide (R = p.2.recs ++ [s]) = true := by (rw [hRe]; simp))
              | (have hbw : decide (R = p.2.recs ++ [s]) = false := by (rw [hRe]; simp))
            first
              | (have hbt : decide (R = p.2.recs) = true := by (rw [hRe]; simp))
              | (have hbt : decide (R = p.2.recs) = false := by (rw [hRe]; simp))
            have HBW := Lib.hid hbw
            have HBT := Lib.hid hbt
            clear hbw hbt hRe
            go_wp2_with (first
              | (at_builtin; refine wpList_pushAll Rd.str rfl _ _ 22 rfl w8.heap.size 9 i0 _ 16 Tryd.underlying22 HI.out HZ0.out HZ1.out HZ2.out rfl (by decide) (fun _ => True) _ [] rfl (own_made Rd.str (fun _ => True) w8 w8.heap.size 9 (Nat.le_refl _)) ao2 cap2 p.2.recs rfl HCK.out HM.out str_one (by unfold maxLen; simp; omega) (by simp; omega) (by simp) ?_; intro v9 w9 hO9 hK9 hw9; obtain ⟨ao9, cap9, rfl⟩ := hO9.form; have hb9 := (own_made Rd.str (fun _ => True) w8 w8.heap.size 9 (Nat.le_refl _)).kbelow (B := w8.heap.size) (Nat.le_refl _) (by simp) hK9; have hs9 := hb9.size; simp only [World.size_alloc] at hs9)
              | (at_builtin; refine wpList_push Rd.str rfl _ _ 22 rfl w8.heap.size 9 i0 _ 16 Tryd.underlying22 HI.out HZ0.out HZ1.out HZ2.out rfl (by decide) (fun _ => True) _ p.2.recs rfl hO9 [.string s] s _ rfl (by simp) ⟨rfl, by unfold maxTx; omega⟩ (by simp [Value.oneCell']) (by unfold maxLen; omega) (by omega) (by omega) ?_; intro va wa hOa hKa hwa; obtain ⟨aoa, capa, rfl⟩ := hOa.form; obtain ⟨hb8a, hGa, hTa, hWa, HTGa, hcur⟩ := whole_mid HTG.out HTK.out hb9 hO9 hKa hOa)
              | (go_at_call 16; first
                  | (with_reducible refine (same_b ao8 aoa cap8 capa (p.2.recs.length + 1) R (p.2.recs ++ [s]) _ (hGa.out.old hcur).here (hWa.out.old hcur).here (by omega) (by simp) _ HBW.out).mono ?_)
                  | (with_reducible refine (same_b ao8 ao2 cap8 cap2 p.2.recs.length R p.2.recs _ (hGa.out.old hcur).here (hTa.out.old hcur).here (by omega) rfl _ HBT.out).mono ?_)
                 rintro e wb ⟨rfl, hbb⟩; have hcur := chain hcur hbb)
              | fail)
            have HTb := Lib.hid (HTGa.out.below hcur)
            have hBb := chain hB8 (chain hb8a hcur)
            have HAP := Lib.hid (append_any HTb.out.jr moreB (by unfold maxTx; omega) (by rw [HBI.out.jn.hf.lo]; simp))
            have hap := HBI.out.jn.app (by rw [HBI.out.fu]; decide) moreB
            obtain ⟨_, _, hap⟩ := hap
            have HB9 := Lib.hid (HBI.out.app moreB)
            clear HM HTK HCK HTG hO9 hK9 hw9 hb9 hOa hKa hwa hb8a hGa hTa hWa hcur HTGa HBW HBT hB8
            rcases hap with ⟨_, h2, _, _⟩ | ⟨_, h2, h4⟩
            all_goals
              rw [h2] at HAP
              refine HAP.out.mono ?_
              intro e wd hp
              obtain ⟨rfl, Fd, Jd, hTd, hFd, hJd, hbd⟩ := HTb.out.post hp
              have hBd := hBb.trans (hbd.mono hs1)
              have HTd := Lib.hid hTd
              clear hp HAP HTb hbd hBb hTd h2
            · go_wp2_with fail
              go_ret
              exact ⟨rfl, hBd⟩
            · have hR4 : (appJ st7 jsz moreB).recs = R ++ [moreB] := by rw [h4]; show jsz.recs ++ [moreB] = _; rw [HR.out]
              obtain ⟨o1, o2⟩ := HB9.out.opened0
              have HO := Lib.hid (HTd.out.duo.open0 HB9.out.len (by rw [HB9.out.jn.hf.lo]; simp))
              rw [o1, o2, hFd] at HO
              try rw [hFz] at HO
              have HR4 := Lib.hid hR4
              clear o1 o2 h4 hR4 HB9
              go_wp2_with fail
              refine HO.out.mono ?_
              intro e we hM
              rcases HTd.out.duo.made hM with ⟨_, Fe, Je, rfl, hTe, hFe, hbe⟩ | ⟨hne, _⟩
              case inr => exact absurd rfl hne
              have hBe := hBd.trans (hbe.mono hs1)
              have HA2 := Lib.hid (all_any hTe.jr 100 (by omega))
              rw [HR4.out, List.take_of_length_le (by simp; omega)] at HA2
              have HTe := Lib.hid hTe
              clear hM HO HTd hbe hTe hBd HR4
              go_wp2_with (first
                | (go_at_call 17; refine HA2.out.mono ?_; rintro e wf2 ⟨aoy, capy, rfl, hOy, hbf⟩; have HTf := Lib.hid (HTe.out.below hbf); have hsf := hbf.size; have hbse := HTe.out.jr.raw.base_le)
                | (at_builtin; refine wpList_ungd (by rfl) ?_; refine wpList_push Rd.str rfl _ _ 22 rfl w1.heap.size 9 i0 _ 16 Tryd.underlying22 HI.out HZ0.out HZ1.out HZ2.out rfl (by decide) (fun _ => True) _ R rfl HTf.out.own [.string moreB] moreB _ rfl (by simp) ⟨rfl, by unfold maxTx; omega⟩ (by simp [Value.oneCell']) (by unfold maxLen; omega) (by omega) (by omega) ?_; intro wv wg hOg hKg hwg; obtain ⟨aog, capg, rfl⟩ := hOg.form; obtain ⟨hyy, hbg⟩ := whole_end HTe.out HTf.out hOy hKg hOg hwg)
                | fail)
              refine (same_c aoy aog capy capg (R.length + 1) (R.length + 1) (R ++ [moreB]) (R ++ [moreB]) wg hyy.out hOg.here (by simp; omega) (by simp) (by simp) true (decide_eq_true rfl)).mono ?_
              rintro e wh ⟨rfl, hbh⟩
              go_wp2_with fail
              go_ret
              exact ⟨rfl, chain (hBe.trans ((hbf.mono (Nat.le_trans hs1 hbse)).trans (hbg.mono hs1))) hbh⟩
      case inr.inl =>
        rcases hst with ⟨_, rfl, hD, hF⟩ | ⟨_, _, h, _⟩
        case inr => cases h
        case inl =>
          have hk2i : (6 : Int) < (fs.length : Int) := by omega
          have hbs := hB.size
          have HC := Lib.hid (hD.out.crash (by have := hF.out.lo; omega) ko kc K (by omega) ((hkl.old hB).mono (fun b hb _ => by omega)))
          clear hD
          go_wp2_with fail
          refine HC.out.mono ?_
          rintro e wc ⟨rfl, hDc0, hbc⟩
          obtain ⟨Fc, hFc, hDc⟩ : ∃ Fc : Fp, Fc.b = F.b ∧ Duo w1.heap.size wc Fc (crashS st K) (.slice ao2 p.2.recs.length cap2) p.2.recs := ⟨{ F with lv := .slice none 0 0 }, rfl, hDc0⟩
          have hBc := hB.trans (hbc.mono hs1)
          have hop := Lib.hid (hF.out.opened (-1))
          have hcr : wf (crashS st K) (-1) false = crashS st K := rfl
          rw [hcr] at hop
          have HO := Lib.hid (hDc.open0 (by rw [crash_len, hF.out.len]) (by show (0 : Nat) ≤ _; omega))
          have HD := Lib.hid hDc
          obtain ⟨X, hX⟩ : ∃ X, crashS st K = X := ⟨_, rfl⟩
          rw [hFc] at HO
          rw [hX] at HO hop HD
          clear HC hDc0 hDc hbc hB hX hcr hF
          go_wp2_with fail
          refine HO.out.mono ?_
          intro e wz hM
          rcases hop.out with ⟨h0, hS⟩ | ⟨_, h0, _⟩
          case inr => omega
          rw [h0] at hM
          rcases HD.out.made hM with ⟨_, Fz, Jz, rfl, hTe, hFe, hbe⟩ | ⟨hne, _⟩
          case inr => exact absurd rfl hne
          have hBz := hBc.trans (hbe.mono hs1)
          have HTz := Lib.hid hTe
          have HSz := Lib.hid hS
          have hFz := hFe.trans hFc
          clear hM HO HD hTe hS hop hbe hBc
          go_wp2_with fail
          obtain ⟨stz, hstz⟩ : ∃ x, (openR X (JSt.new 1 38 7)).1 = x := ⟨_, rfl⟩
          obtain ⟨jsz, hjsz⟩ : ∃ x, openJ X (JSt.new 1 38 7) = x := ⟨_, rfl⟩
          rw [hstz, hjsz] at HTz HSz
          clear hstz hjsz
          have HFU := Lib.hid (HTz.out.fuse (-1) (by omega) (by omega) HSz.out.jn.hf.off)
          try rw [hFz] at HFU
          rw [show max (-1 : Int) (-1) = -1 by decide] at HFU
          refine HFU.out.mono ?_
          rintro e w7 ⟨rfl, hT7, hb7⟩
          have hB7 := hBz.trans (hb7.mono hs1)
          have HS7 := Lib.hid (HSz.out.wf (-1))
          obtain ⟨st7, hst7⟩ : ∃ x, wf stz (-1) false = x := ⟨_, rfl⟩
          rw [hst7] at hT7 HS7
          have hfu7 : st7.fu = -1 := by rw [← hst7]; rfl
          have HBI := Lib.hid (HS7.out.binv hfu7)
          have hrok := HS7.out.rok
          obtain ⟨R, hR⟩ : ∃ R, jsz.recs = R := ⟨_, rfl⟩
          have HR := Lib.hid hR
          have HT7 := Lib.hid hT7
          have HA := Lib.hid (all_any hT7.jr 100 (by omega))
          rw [hR] at HA hrok
          have hR11 : R.length ≤ 11 := by have := hrok.le; omega
          rw [List.take_of_length_le (by omega)] at HA
          clear HFU hT7 hb7 hBz HTz HSz hst7 hfu7 hR HS7
          go_wp2_with fail
          refine HA.out.mono ?_
          rintro e w8 ⟨ao8, cap8, rfl, hO8, hb8⟩
          have hB8 := chain hB7 hb8
          have hs8 := hB8.size
          have HTK := Lib.hid ((HT7.out.below hb8).own)
          have HCK := Lib.hid HTK.out.cap.2.2.2
          have HTG := Lib.hid (HT7.out.swap hO8 hb8)
          have HM := Lib.hid (show SlAt Rd.str (fun b => True ∧ some b ≠ some w8.heap.size) (w8.alloc (.cells #[] 9)) ao2 p.2.recs from (HTK.out.here.mono (fun b h1 h2 => ⟨trivial, by simp; omega⟩)).below ((Below.refl _ _).alloc (Nat.le_refl _) _))
          clear HA HT7 hO8 hB7 hb8
          have hz8 : w8.heap.size ≤ w8.heap.size := Nat.le_refl _
          have hmB := moreB_size
          rcases hrok with ⟨rfl, hRe⟩ | ⟨rfl, hRe⟩ | ⟨rfl, hRe | hRe⟩
          all_goals
            first
              | (have hbw : decide (R = p.2.recs ++ [s]) = true := by (rw [hRe]; simp))
              | (have hbw : decide (R = p.2.recs ++ [s]) = false := by (rw [hRe]; simp))
            first
              | (have hbt : decide (R = p.2.recs) = true := by (rw [hRe]; simp))
              | (have hbt : decide (R = p.2.recs) = false := by (rw [hRe]; simp))
            have HBW := Lib.hid hbw
            have HBT := Lib.hid hbt
            clear hbw hbt hRe
            go_wp2_with (first
              | (at_builtin; refine wpList_pushAll Rd.str rfl _ _ 22 rfl w8.heap.size 9 i0 _ 16 Tryd.underlying22 HI.out HZ0.out HZ1.out HZ2.out rfl (by decide) (fun _ => True) _ [] rfl (own_made Rd.str (fun _ => True) w8 w8.heap.size 9 (Nat.le_refl _)) ao2 cap2 p.2.recs rfl HCK.out HM.out str_one (by unfold maxLen; simp; omega) (by simp; omega) (by simp) ?_; intro v9 w9 hO9 hK9 hw9; obtain ⟨ao9, cap9, rfl⟩ := hO9.form; have hb9 := (own_made Rd.str (fun _ => True) w8 w8.heap.size 9 (Nat.le_refl _)).kbelow (B := w8.heap.size) (Nat.le_refl _) (by simp) hK9; have hs9 := hb9.size; simp only [World.size_alloc] at hs9)
              | (at_builtin; refine wpList_push Rd.str rfl _ _ 22 rfl w8.heap.size 9 i0 _ 16 Tryd.underlying22 HI.out HZ0.out HZ1.out HZ2.out rfl (by decide) (fun _ => True) _ p.2.recs rfl hO9 [.string s] s _ rfl (by simp) ⟨rfl, by unfold maxTx; omega⟩ (by simp [Value.oneCell']) (by unfold maxLen; omega) (by omega) (by omega) ?_; intro va wa hOa hKa hwa; obtain ⟨aoa, capa, rfl⟩ := hOa.form; obtain ⟨hb8a, hGa, hTa, hWa, HTGa, hcur⟩ := whole_mid HTG.out HTK.out hb9 hO9 hKa hOa)
              | (go_at_call 16; first
                  | (with_reducible refine (same_b ao8 aoa cap8 capa (p.2.recs.length + 1) R (p.2.recs ++ [s]) _ (hGa.out.old hcur).here (hWa.out.old hcur).here (by omega) (by simp) _ HBW.out).mono ?_)
                  | (with_reducible refine (same_b ao8 ao2 cap8 cap2 p.2.recs.length R p.2.recs _ (hGa.out.old hcur).here (hTa.out.old hcur).here (by omega) rfl _ HBT.out).mono ?_)
                 rintro e wb ⟨rfl, hbb⟩; have hcur := chain hcur hbb)
              | fail)
            have HTb := Lib.hid (HTGa.out.below hcur)
            have hBb := chain hB8 (chain hb8a hcur)
            have HAP := Lib.hid (append_any HTb.out.jr moreB (by unfold maxTx; omega) (by rw [HBI.out.jn.hf.lo]; simp))
            have hap := HBI.out.jn.app (by rw [HBI.out.fu]; decide) moreB
            obtain ⟨_, _, hap⟩ := hap
            have HB9 := Lib.hid (HBI.out.app moreB)
            clear HM HTK HCK HTG hO9 hK9 hw9 hb9 hOa hKa hwa hb8a hGa hTa hWa hcur HTGa HBW HBT hB8
            rcases hap with ⟨_, h2, _, _⟩ | ⟨_, h2, h4⟩
            all_goals
              rw [h2] at HAP
              refine HAP.out.mono ?_
              intro e wd hp
              obtain ⟨rfl, Fd, Jd, hTd, hFd, hJd, hbd⟩ := HTb.out.post hp
              have hBd := hBb.trans (hbd.mono hs1)
              have HTd := Lib.hid hTd
              clear hp HAP HTb hbd hBb hTd h2
            · go_wp2_with fail
              go_ret
              exact ⟨rfl, hBd⟩
            · have hR4 : (appJ st7 jsz moreB).recs = R ++ [moreB] := by rw [h4]; show jsz.recs ++ [moreB] = _; rw [HR.out]
              obtain ⟨o1, o2⟩ := HB9.out.opened0
              have HO := Lib.hid (HTd.out.duo.open0 HB9.out.len (by rw [HB9.out.jn.hf.lo]; simp))
              rw [o1, o2, hFd] at HO
              try rw [hFz] at HO
              have HR4 := Lib.hid hR4
              clear o1 o2 h4 hR4 HB9
              go_wp2_with fail
              refine HO.out.mono ?_
              intro e we hM
              rcases HTd.out.duo.made hM with ⟨_, Fe, Je, rfl, hTe, hFe, hbe⟩ | ⟨hne, _⟩
              case inr => exact absurd rfl hne
              have hBe := hBd.trans (hbe.mono hs1)
              have HA2 := Lib.hid (all_any hTe.jr 100 (by omega))
              rw [HR4.out, List.take_of_length_le (by simp; omega)] at HA2
              have HTe := Lib.hid hTe
              clear hM HO HTd hbe hTe hBd HR4
              go_wp2_with (first
                | (go_at_call 17; refine HA2.out.mono ?_; rintro e wf2 ⟨aoy, capy, rfl, hOy, hbf⟩; have HTf := Lib.hid (HTe.out.below hbf); have hsf := hbf.size; have hbse := HTe.out.jr.raw.base_le)
                | (at_builtin; refine wpList_ungd (by rfl) ?_; refine wpList_push Rd.str rfl _ _ 22 rfl w1.heap.size 9 i0 _ 16 Tryd.underlying22 HI.out HZ0.out HZ1.out HZ2.out rfl (by decide) (fun _ => True) _ R rfl HTf.out.own [.string moreB] moreB _ rfl (by simp) ⟨rfl, by unfold maxTx; omega⟩ (by simp [Value.oneCell']) (by unfold maxLen; omega) (by omega) (by omega) ?_; intro wv wg hOg hKg hwg; obtain ⟨aog, capg, rfl⟩ := hOg.form; obtain ⟨hyy, hbg⟩ := whole_end HTe.out HTf.out hOy hKg hOg hwg)
                | fail)
              refine (same_c aoy aog capy capg (R.length + 1) (R.length + 1) (R ++ [moreB]) (R ++ [moreB]) wg hyy.out hOg.here (by simp; omega) (by simp) (by simp) true (decide_eq_true rfl)).mono ?_
              rintro e wh ⟨rfl, hbh⟩
              go_wp2_with fail
              go_ret
              exact ⟨rfl, chain (hBe.trans ((hbf.mono (Nat.le_trans hs1 hbse)).trans (hbg.mono hs1))) hbh⟩
      case inr.inr =>
        rcases hst with ⟨h, _⟩ | ⟨Jz, jsz, rfl, rfl, HTz, HSz⟩
        case inl => exact absurd h hne
        case inr =>
          clear hne
          obtain ⟨stz, hstz⟩ : ∃ x, st = x := ⟨_, rfl⟩
          rw [hstz] at HTz HSz
          have hFz : F.b = F.b := rfl
          have hBz := hB
          clear hstz hB
          by_cases hk2 : k < fs.length
          · have hk2i : (k : Int) < (fs.length : Int) := by omega
            by_cases hk3 : k < 6
            · have hk3i : (k : Int) < 6 := by omega
              go_wp2_with fail
              have HFU := Lib.hid (HTz.out.fuse (-1) (by omega) (by omega) HSz.out.jn.hf.off)
              try rw [hFz] at HFU
              rw [show max (-1 : Int) (-1) = -1 by decide] at HFU
              refine HFU.out.mono ?_
              rintro e w7 ⟨rfl, hT7, hb7⟩
              have hB7 := hBz.trans (hb7.mono hs1)
              have HS7 := Lib.hid (HSz.out.wf (-1))
              obtain ⟨st7, hst7⟩ : ∃ x, wf stz (-1) false = x := ⟨_, rfl⟩
              rw [hst7] at hT7 HS7
              have hfu7 : st7.fu = -1 := by rw [← hst7]; rfl
              have HBI := Lib.hid (HS7.out.binv hfu7)
              have hrok := HS7.out.rok
              obtain ⟨R, hR⟩ : ∃ R, jsz.recs = R := ⟨_, rfl⟩
              have HR := Lib.hid hR
              have HT7 := Lib.hid hT7
              have HA := Lib.hid (all_any hT7.jr 100 (by omega))
              rw [hR] at HA hrok
              have hR11 : R.length ≤ 11 := by have := hrok.le; omega
              rw [List.take_of_length_le (by omega)] at HA
              clear HFU hT7 hb7 hBz HTz HSz hst7 hfu7 hR HS7
              go_wp2_with fail
              refine HA.out.mono ?_
              rintro e w8 ⟨ao8, cap8, rfl, hO8, hb8⟩
              have hB8 := chain hB7 hb8
              have hs8 := hB8.size
              have HTK := Lib.hid ((HT7.out.below hb8).own)
              have HCK := Lib.hid HTK.out.cap.2.2.2
              have HTG := Lib.hid (HT7.out.swap hO8 hb8)
              have HM := Lib.hid (show SlAt Rd.str (fun b => True ∧ some b ≠ some w8.heap.size) (w8.alloc (.cells #[] 9)) ao2 p.2.recs from (HTK.out.here.mono (fun b h1 h2 => ⟨trivial, by simp; omega⟩)).below ((Below.refl _ _).alloc (Nat.le_refl _) _))
              clear HA HT7 hO8 hB7 hb8
              have hz8 : w8.heap.size ≤ w8.heap.size := Nat.le_refl _
              have hmB := moreB_size
              rcases hrok with ⟨rfl, hRe⟩ | ⟨rfl, hRe⟩ | ⟨rfl, hRe | hRe⟩
              all_goals
                first
                  | (have hbw : decide (R = p.2.recs ++ [s]) = true := by (rw [hRe]; simp))
                  | (have hbw : decide (R = p.2.recs ++ [s]) = false := by (rw [hRe]; simp))
                first
                  | (have hbt : decide (R = p.2.recs) = true := by (rw [hRe]; simp))
                  | (have hbt : decide (R = p.2.recs) = false := by (rw [hRe]; simp))
                have HBW := Lib.hid hbw
                have HBT := Lib.hid hbt
                clear hbw hbt hRe
                go_wp2_with (first
                  | (at_builtin; refine wpList_pushAll Rd.str rfl _ _ 22 rfl w8.heap.size 9 i0 _ 16 Tryd.underlying22 HI.out HZ0.out HZ1.out HZ2.out rfl (by decide) (fun _ => True) _ [] rfl (own_made Rd.str (fun _ => True) w8 w8.heap.size 9 (Nat.le_refl _)) ao2 cap2 p.2.recs rfl HCK.out HM.out str_one (by unfold maxLen; simp; omega) (by simp; omega) (by simp) ?_; intro v9 w9 hO9 hK9 hw9; obtain ⟨ao9, cap9, rfl⟩ := hO9.form; have hb9 := (own_made Rd.str (fun _ => True) w8 w8.heap.size 9 (Nat.le_refl _)).kbelow (B := w8.heap.size) (Nat.le_refl _) (by simp) hK9; have hs9 := hb9.size; simp only [World.size_alloc] at hs9)
                  | (at_builtin; refine wpList_push Rd.str rfl _ _ 22 rfl w8.heap.size 9 i0 _ 16 Tryd.underlying22 HI.out HZ0.out HZ1.out HZ2.out rfl (by decide) (fun _ => True) _ p.2.recs rfl hO9 [.string s] s _ rfl (by simp) ⟨rfl, by unfold maxTx; omega⟩ (by simp [Value.oneCell']) (by unfold maxLen; omega) (by omega) (by omega) ?_; intro va wa hOa hKa hwa; obtain ⟨aoa, capa, rfl⟩ := hOa.form; obtain ⟨hb8a, hGa, hTa, hWa, HTGa, hcur⟩ := whole_mid HTG.out HTK.out hb9 hO9 hKa hOa)
                  | (go_at_call 16; first
                      | (with_reducible refine (same_b ao8 aoa cap8 capa (p.2.recs.length + 1) R (p.2.recs ++ [s]) _ (hGa.out.old hcur).here (hWa.out.old hcur).here (by omega) (by simp) _ HBW.out).mono ?_)
                      | (with_reducible refine (same_b ao8 ao2 cap8 cap2 p.2.recs.length R p.2.recs _ (hGa.out.old hcur).here (hTa.out.old hcur).here (by omega) rfl _ HBT.out).mono ?_)
                     rintro e wb ⟨rfl, hbb⟩; have hcur := chain hcur hbb)
                  | fail)
                have HTb := Lib.hid (HTGa.out.below hcur)
                have hBb := chain hB8 (chain hb8a hcur)
                have HAP := Lib.hid (append_any HTb.out.jr moreB (by unfold maxTx; omega) (by rw [HBI.out.jn.hf.lo]; simp))
                have hap := HBI.out.jn.app (by rw [HBI.out.fu]; decide) moreB
                obtain ⟨_, _, hap⟩ := hap
                have HB9 := Lib.hid (HBI.out.app moreB)
                clear HM HTK HCK HTG hO9 hK9 hw9 hb9 hOa hKa hwa hb8a hGa hTa hWa hcur HTGa HBW HBT hB8
                rcases hap with ⟨_, h2, _, _⟩ | ⟨_, h2, h4⟩
                all_goals
                  rw [h2] at HAP
                  refine HAP.out.mono ?_
                  intro e wd hp
                  obtain ⟨rfl, Fd, Jd, hTd, hFd, hJd, hbd⟩ := HTb.out.post hp
                  have hBd := hBb.trans (hbd.mono hs1)
                  have HTd := Lib.hid hTd
                  clear hp HAP HTb hbd hBb hTd h2
                · go_wp2_with fail
                  go_ret
                  exact ⟨rfl, hBd⟩
                · have hR4 : (appJ st7 jsz moreB).recs = R ++ [moreB] := by rw [h4]; show jsz.recs ++ [moreB] = _; rw [HR.out]
                  obtain ⟨o1, o2⟩ := HB9.out.opened0
                  have HO := Lib.hid (HTd.out.duo.open0 HB9.out.len (by rw [HB9.out.jn.hf.lo]; simp))
                  rw [o1, o2, hFd] at HO
                  try rw [hFz] at HO
                  have HR4 := Lib.hid hR4
                  clear o1 o2 h4 hR4 HB9
                  go_wp2_with fail
                  refine HO.out.mono ?_
                  intro e we hM
                  rcases HTd.out.duo.made hM with ⟨_, Fe, Je, rfl, hTe, hFe, hbe⟩ | ⟨hne, _⟩
                  case inr => exact absurd rfl hne
                  have hBe := hBd.trans (hbe.mono hs1)
                  have HA2 := Lib.hid (all_any hTe.jr 100 (by omega))
                  rw [HR4.out, List.take_of_length_le (by simp; omega)] at HA2
                  have HTe := Lib.hid hTe
                  clear hM HO HTd hbe hTe hBd HR4
                  go_wp2_with (first
                    | (go_at_call 17; refine HA2.out.mono ?_; rintro e wf2 ⟨aoy, capy, rfl, hOy, hbf⟩; have HTf := Lib.hid (HTe.out.below hbf); have hsf := hbf.size; have hbse := HTe.out.jr.raw.base_le)
                    | (at_builtin; refine wpList_ungd (by rfl) ?_; refine wpList_push Rd.str rfl _ _ 22 rfl w1.heap.size 9 i0 _ 16 Tryd.underlying22 HI.out HZ0.out HZ1.out HZ2.out rfl (by decide) (fun _ => True) _ R rfl HTf.out.own [.string moreB] moreB _ rfl (by simp) ⟨rfl, by unfold maxTx; omega⟩ (by simp [Value.oneCell']) (by unfold maxLen; omega) (by omega) (by omega) ?_; intro wv wg hOg hKg hwg; obtain ⟨aog, capg, rfl⟩ := hOg.form; obtain ⟨hyy, hbg⟩ := whole_end HTe.out HTf.out hOy hKg hOg hwg)
                    | fail)
                  refine (same_c aoy aog capy capg (R.length + 1) (R.length + 1) (R ++ [moreB]) (R ++ [moreB]) wg hyy.out hOg.here (by simp; omega) (by simp) (by simp) true (decide_eq_true rfl)).mono ?_
                  rintro e wh ⟨rfl, hbh⟩
                  go_wp2_with fail
                  go_ret
                  exact ⟨rfl, chain (hBe.trans ((hbf.mono (Nat.le_trans hs1 hbse)).trans (hbg.mono hs1))) hbh⟩
            · have hk3i : ¬ (k : Int) < 6 := by omega
              go_wp2_with fail
              have HFU := Lib.hid (HTz.out.fuse (-1) (by omega) (by omega) HSz.out.jn.hf.off)
              try rw [hFz] at HFU
              rw [show max (-1 : Int) (-1) = -1 by decide] at HFU
              refine HFU.out.mono ?_
              rintro e w7 ⟨rfl, hT7, hb7⟩
              have hB7 := hBz.trans (hb7.mono hs1)
              have HS7 := Lib.hid (HSz.out.wf (-1))
              obtain ⟨st7, hst7⟩ : ∃ x, wf stz (-1) false = x := ⟨_, rfl⟩
              rw [hst7] at hT7 HS7
              have hfu7 : st7.fu = -1 := by rw [← hst7]; rfl
              have HBI := Lib.hid (HS7.out.binv hfu7)
              have hrok := HS7.out.rok
              obtain ⟨R, hR⟩ : ∃ R, jsz.recs = R := ⟨_, rfl⟩
              have HR := Lib.hid hR
              have HT7 := Lib.hid hT7
              have HA := Lib.hid (all_any hT7.jr 100 (by omega))
              rw [hR] at HA hrok
              have hR11 : R.length ≤ 11 := by have := hrok.le; omega
              rw [List.take_of_length_le (by omega)] at HA
              clear HFU hT7 hb7 hBz HTz HSz hst7 hfu7 hR HS7
              go_wp2_with fail
              refine HA.out.mono ?_
              rintro e w8 ⟨ao8, cap8, rfl, hO8, hb8⟩
              have hB8 := chain hB7 hb8
              have hs8 := hB8.size
              have HTK := Lib.hid ((HT7.out.below hb8).own)
              have HCK := Lib.hid HTK.out.cap.2.2.2
              have HTG := Lib.hid (HT7.out.swap hO8 hb8)
              have HM := Lib.hid (show SlAt Rd.str (fun b => True ∧ some b ≠ some w8.heap.size) (w8.alloc (.cells #[] 9)) ao2 p.2.recs from (HTK.out.here.mono (fun b h1 h2 => ⟨trivial, by simp; omega⟩)).below ((Below.refl _ _).alloc (Nat.le_refl _) _))
              clear HA HT7 hO8 hB7 hb8
              have hz8 : w8.heap.size ≤ w8.heap.size := Nat.le_refl _
              have hmB := moreB_size
              rcases hrok with ⟨rfl, hRe⟩ | ⟨rfl, hRe⟩ | ⟨rfl, hRe | hRe⟩
              all_goals
                first
                  | (have hbw : decide (R = p.2.recs ++ [s]) = true := by (rw [hRe]; simp))
                  | (have hbw : decide (R = p.2.recs ++ [s]) = false := by (rw [hRe]; simp))
                first
                  | (have hbt : decide (R = p.2.recs) = true := by (rw [hRe]; simp))
                  | (have hbt : decide (R = p.2.recs) = false := by (rw [hRe]; simp))
                have HBW := Lib.hid hbw
                have HBT := Lib.hid hbt
                clear hbw hbt hRe
                go_wp2_with (first
                  | (at_builtin; refine wpList_pushAll Rd.str rfl _ _ 22 rfl w8.heap.size 9 i0 _ 16 Tryd.underlying22 HI.out HZ0.out HZ1.out HZ2.out rfl (by decide) (fun _ => True) _ [] rfl (own_made Rd.str (fun _ => True) w8 w8.heap.size 9 (Nat.le_refl _)) ao2 cap2 p.2.recs rfl HCK.out HM.out str_one (by unfold maxLen; simp; omega) (by simp; omega) (by simp) ?_; intro v9 w9 hO9 hK9 hw9; obtain ⟨ao9, cap9, rfl⟩ := hO9.form; have hb9 := (own_made Rd.str (fun _ => True) w8 w8.heap.size 9 (Nat.le_refl _)).kbelow (B := w8.heap.size) (Nat.le_refl _) (by simp) hK9; have hs9 := hb9.size; simp only [World.size_alloc] at hs9)
                  | (at_builtin; refine wpList_push Rd.str rfl _ _ 22 rfl w8.heap.size 9 i0 _ 16 Tryd.underlying22 HI.out HZ0.out HZ1.out HZ2.out rfl (by decide) (fun _ => True) _ p.2.recs rfl hO9 [.string s] s _ rfl (by simp) ⟨rfl, by unfold maxTx; omega⟩ (by simp [Value.oneCell']) (by unfold maxLen; omega) (by omega) (by omega) ?_; intro va wa hOa hKa hwa; obtain ⟨aoa, capa, rfl⟩ := hOa.form; obtain ⟨hb8a, hGa, hTa, hWa, HTGa, hcur⟩ := whole_mid HTG.out HTK.out hb9 hO9 hKa hOa)
                  | (go_at_call 16; first
                      | (with_reducible refine (same_b ao8 aoa cap8 capa (p.2.recs.length + 1) R (p.2.recs ++ [s]) _ (hGa.out.old hcur).here (hWa.out.old hcur).here (by omega) (by simp) _ HBW.out).mono ?_)
                      | (with_reducible refine (same_b ao8 ao2 cap8 cap2 p.2.recs.length R p.2.recs _ (hGa.out.old hcur).here (hTa.out.old hcur).here (by omega) rfl _ HBT.out).mono ?_)
                     rintro e wb ⟨rfl, hbb⟩; have hcur := chain hcur hbb)
                  | fail)
                have HTb := Lib.hid (HTGa.out.below hcur)
                have hBb := chain hB8 (chain hb8a hcur)
                have HAP := Lib.hid (append_any HTb.out.jr moreB (by unfold maxTx; omega) (by rw [HBI.out.jn.hf.lo]; simp))
                have hap := HBI.out.jn.app (by rw [HBI.out.fu]; decide) moreB
                obtain ⟨_, _, hap⟩ := hap
                have HB9 := Lib.hid (HBI.out.app moreB)
                clear HM HTK HCK HTG hO9 hK9 hw9 hb9 hOa hKa hwa hb8a hGa hTa hWa hcur HTGa HBW HBT hB8
                rcases hap with ⟨_, h2, _, _⟩ | ⟨_, h2, h4⟩
                all_goals
                  rw [h2] at HAP
                  refine HAP.out.mono ?_
                  intro e wd hp
                  obtain ⟨rfl, Fd, Jd, hTd, hFd, hJd, hbd⟩ := HTb.out.post hp
                  have hBd := hBb.trans (hbd.mono hs1)
                  have HTd := Lib.hid hTd
                  clear hp HAP HTb hbd hBb hTd h2
                · go_wp2_with fail
                  go_ret
                  exact ⟨rfl, hBd⟩
                · have hR4 : (appJ st7 jsz moreB).recs = R ++ [moreB] := by rw [h4]; show jsz.recs ++ [moreB] = _; rw [HR.out]
                  obtain ⟨o1, o2⟩ := HB9.out.opened0
                  have HO := Lib.hid (HTd.out.duo.open0 HB9.out.len (by rw [HB9.out.jn.hf.lo]; simp))
                  rw [o1, o2, hFd] at HO
                  try rw [hFz] at HO
                  have HR4 := Lib.hid hR4
                  clear o1 o2 h4 hR4 HB9
                  go_wp2_with fail
                  refine HO.out.mono ?_
                  intro e we hM
                  rcases HTd.out.duo.made hM with ⟨_, Fe, Je, rfl, hTe, hFe, hbe⟩ | ⟨hne, _⟩
                  case inr => exact absurd rfl hne
                  have hBe := hBd.trans (hbe.mono hs1)
                  have HA2 := Lib.hid (all_any hTe.jr 100 (by omega))
                  rw [HR4.out, List.take_of_length_le (by simp; omega)] at HA2
                  have HTe := Lib.hid hTe
                  clear hM HO HTd hbe hTe hBd HR4
                  go_wp2_with (first
                    | (go_at_call 17; refine HA2.out.mono ?_; rintro e wf2 ⟨aoy, capy, rfl, hOy, hbf⟩; have HTf := Lib.hid (HTe.out.below hbf); have hsf := hbf.size; have hbse := HTe.out.jr.raw.base_le)
                    | (at_builtin; refine wpList_ungd (by rfl) ?_; refine wpList_push Rd.str rfl _ _ 22 rfl w1.heap.size 9 i0 _ 16 Tryd.underlying22 HI.out HZ0.out HZ1.out HZ2.out rfl (by decide) (fun _ => True) _ R rfl HTf.out.own [.string moreB] moreB _ rfl (by simp) ⟨rfl, by unfold maxTx; omega⟩ (by simp [Value.oneCell']) (by unfold maxLen; omega) (by omega) (by omega) ?_; intro wv wg hOg hKg hwg; obtain ⟨aog, capg, rfl⟩ := hOg.form; obtain ⟨hyy, hbg⟩ := whole_end HTe.out HTf.out hOy hKg hOg hwg)
                    | fail)
                  refine (same_c aoy aog capy capg (R.length + 1) (R.length + 1) (R ++ [moreB]) (R ++ [moreB]) wg hyy.out hOg.here (by simp; omega) (by simp) (by simp) true (decide_eq_true rfl)).mono ?_
                  rintro e wh ⟨rfl, hbh⟩
                  go_wp2_with fail
                  go_ret
                  exact ⟨rfl, chain (hBe.trans ((hbf.mono (Nat.le_trans hs1 hbse)).trans (hbg.mono hs1))) hbh⟩
          · have hk2i : ¬ (k : Int) < (fs.length : Int) := by omega
            go_wp2_with fail
            have HFU := Lib.hid (HTz.out.fuse (-1) (by omega) (by omega) HSz.out.jn.hf.off)
            try rw [hFz] at HFU
            rw [show max (-1 : Int) (-1) = -1 by decide] at HFU
            refine HFU.out.mono ?_
            rintro e w7 ⟨rfl, hT7, hb7⟩
            have hB7 := hBz.trans (hb7.mono hs1)
            have HS7 := Lib.hid (HSz.out.wf (-1))
            obtain ⟨st7, hst7⟩ : ∃ x, wf stz (-1) false = x := ⟨_, rfl⟩
            rw [hst7] at hT7 HS7
            have hfu7 : st7.fu = -1 := by rw [← hst7]; rfl
            have HBI := Lib.hid (HS7.out.binv hfu7)
            have hrok := HS7.out.rok
            obtain ⟨R, hR⟩ : ∃ R, jsz.recs = R := ⟨_, rfl⟩
            have HR := Lib.hid hR
            have HT7 := Lib.hid hT7
            have HA := Lib.hid (all_any hT7.jr 100 (by omega))
            rw [hR] at HA hrok
            have hR11 : R.length ≤ 11 := by have := hrok.le; omega
            rw [List.take_of_length_le (by omega)] at HA
            clear HFU hT7 hb7 hBz HTz HSz hst7 hfu7 hR HS7
            go_wp2_with fail
            refine HA.out.mono ?_
            rintro e w8 ⟨ao8, cap8, rfl, hO8, hb8⟩
            have hB8 := chain hB7 hb8
            have hs8 := hB8.size
            have HTK := Lib.hid ((HT7.out.below hb8).own)
            have HCK := Lib.hid HTK.out.cap.2.2.2
            have HTG := Lib.hid (HT7.out.swap hO8 hb8)
            have HM := Lib.hid (show SlAt Rd.str (fun b => True ∧ some b ≠ some w8.heap.size) (w8.alloc (.cells #[] 9)) ao2 p.2.recs from (HTK.out.here.mono (fun b h1 h2 => ⟨trivial, by simp; omega⟩)).below ((Below.refl _ _).alloc (Nat.le_refl _) _))
            clear HA HT7 hO8 hB7 hb8
            have hz8 : w8.heap.size ≤ w8.heap.size := Nat.le_refl _
            have hmB := moreB_size
            rcases hrok with ⟨rfl, hRe⟩ | ⟨rfl, hRe⟩ | ⟨rfl, hRe | hRe⟩
            all_goals
              first
                | (have hbw : decide (R = p.2.recs ++ [s]) = true := by (rw [hRe]; simp))
                | (have hbw : decide (R = p.2.recs ++ [s]) = false := by (rw [hRe]; simp))
              first
                | (have hbt : decide (R = p.2.recs) = true := by (rw [hRe]; simp))
                | (have hbt : decide (R = p.2.recs) = false := by (rw [hRe]; simp))
              have HBW := Lib.hid hbw
              have HBT := Lib.hid hbt
              clear hbw hbt hRe
              go_wp2_with (first
                | (at_builtin; refine wpList_pushAll Rd.str rfl _ _ 22 rfl w8.heap.size 9 i0 _ 16 Tryd.underlying22 HI.out HZ0.out HZ1.out HZ2.out rfl (by decide) (fun _ => True) _ [] rfl (own_made Rd.str (fun _ => True) w8 w8.heap.size 9 (Nat.le_refl _)) ao2 cap2 p.2.recs rfl HCK.out HM.out str_one (by unfold maxLen; simp; omega) (by simp; omega) (by simp) ?_; intro v9 w9 hO9 hK9 hw9; obtain ⟨ao9, cap9, rfl⟩ := hO9.form; have hb9 := (own_made Rd.str (fun _ => True) w8 w8.heap.size 9 (Nat.le_refl _)).kbelow (B := w8.heap.size) (Nat.le_refl _) (by simp) hK9; have hs9 := hb9.size; simp only [World.size_alloc] at hs9)
                | (at_builtin; refine wpList_push Rd.str rfl _ _ 22 rfl w8.heap.size 9 i0 _ 16 Tryd.underlying22 HI.out HZ0.out HZ1.out HZ2.out rfl (by decide) (fun _ => True) _ p.2.recs rfl hO9 [.string s] s _ rfl (by simp) ⟨rfl, by unfold maxTx; omega⟩ (by simp [Value.oneCell']) (by unfold maxLen; omega) (by omega) (by omega) ?_; intro va wa hOa hKa hwa; obtain ⟨aoa, capa, rfl⟩ := hOa.form; obtain ⟨hb8a, hGa, hTa, hWa, HTGa, hcur⟩ := whole_mid HTG.out HTK.out hb9 hO9 hKa hOa)
                | (go_at_call 16; first
                    | (with_reducible refine (same_b ao8 aoa cap8 capa (p.2.recs.length + 1) R (p.2.recs ++ [s]) _ (hGa.out.old hcur).here (hWa.out.old hcur).here (by omega) (by simp) _ HBW.out).mono ?_)
                    | (with_reducible refine (same_b ao8 ao2 cap8 cap2 p.2.recs.length R p.2.recs _ (hGa.out.old hcur).here (hTa.out.old hcur).here (by omega) rfl _ HBT.out).mono ?_)
                   rintro e wb ⟨rfl, hbb⟩; have hcur := chain hcur hbb)
                | fail)
              have HTb := Lib.hid (HTGa.out.below hcur)
              have hBb := chain hB8 (chain hb8a hcur)
              have HAP := Lib.hid (append_any HTb.out.jr moreB (by unfold maxTx; omega) (by rw [HBI.out.jn.hf.lo]; simp))
              have hap := HBI.out.jn.app (by rw [HBI.out.fu]; decide) moreB
              obtain ⟨_, _, hap⟩ := hap
              have HB9 := Lib.hid (HBI.out.app moreB)
              clear HM HTK HCK HTG hO9 hK9 hw9 hb9 hOa hKa hwa hb8a hGa hTa hWa hcur HTGa HBW HBT hB8
              rcases hap with ⟨_, h2, _, _⟩ | ⟨_, h2, h4⟩
              all_goals
                rw [h2] at HAP
                refine HAP.out.mono ?_
                intro e wd hp
                obtain ⟨rfl, Fd, Jd, hTd, hFd, hJd, hbd⟩ := HTb.out.post hp
                have hBd := hBb.trans (hbd.mono hs1)
                have HTd := Lib.hid hTd
                clear hp HAP HTb hbd hBb hTd h2
              · go_wp2_with fail
                go_ret
                exact ⟨rfl, hBd⟩
              · have hR4 : (appJ st7 jsz moreB).recs = R ++ [moreB] := by rw [h4]; show jsz.recs ++ [moreB] = _; rw [HR.out]
                obtain ⟨o1, o2⟩ := HB9.out.opened0
                have HO := Lib.hid (HTd.out.duo.open0 HB9.out.len (by rw [HB9.out.jn.hf.lo]; simp))
                rw [o1, o2, hFd] at HO
                try rw [hFz] at HO
                have HR4 := Lib.hid hR4
                clear o1 o2 h4 hR4 HB9
                go_wp2_with fail
                refine HO.out.mono ?_
                intro e we hM
                rcases HTd.out.duo.made hM with ⟨_, Fe, Je, rfl, hTe, hFe, hbe⟩ | ⟨hne, _⟩
                case inr => exact absurd rfl hne
                have hBe := hBd.trans (hbe.mono hs1)
                have HA2 := Lib.hid (all_any hTe.jr 100 (by omega))
                rw [HR4.out, List.take_of_length_le (by simp; omega)] at HA2
                have HTe := Lib.hid hTe
                clear hM HO HTd hbe hTe hBd HR4
                go_wp2_with (first
                  | (go_at_call 17; refine HA2.out.mono ?_; rintro e wf2 ⟨aoy, capy, rfl, hOy, hbf⟩; have HTf := Lib.hid (HTe.out.below hbf); have hsf := hbf.size; have hbse := HTe.out.jr.raw.base_le)
                  | (at_builtin; refine wpList_ungd (by rfl) ?_; refine wpList_push Rd.str rfl _ _ 22 rfl w1.heap.size 9 i0 _ 16 Tryd.underlying22 HI.out HZ0.out HZ1.out HZ2.out rfl (by decide) (fun _ => True) _ R rfl HTf.out.own [.string moreB] moreB _ rfl (by simp) ⟨rfl, by unfold maxTx; omega⟩ (by simp [Value.oneCell']) (by unfold maxLen; omega) (by omega) (by omega) ?_; intro wv wg hOg hKg hwg; obtain ⟨aog, capg, rfl⟩ := hOg.form; obtain ⟨hyy, hbg⟩ := whole_end HTe.out HTf.out hOy hKg hOg hwg)
                  | fail)
                refine (same_c aoy aog capy capg (R.length + 1) (R.length + 1) (R ++ [moreB]) (R ++ [moreB]) wg hyy.out hOg.here (by simp; omega) (by simp) (by simp) true (decide_eq_true rfl)).mono ?_
                rintro e wh ⟨rfl, hbh⟩
                go_wp2_with fail
                go_ret
                exact ⟨rfl, chain (hBe.trans ((hbf.mono (Nat.le_trans hs1 hbse)).trans (hbg.mono hs1))) hbh⟩
end Go.Proofs.YtaljgcdjkmpljaaDoor

/- JournalWhole holds: wherever the power goes in an Append and in openings behind it, whatever is kept of each write, the journal has the records that were answered OK, or besides them the one that was under way; and goes on. The row lists Go's own tables of UTF-8, tied to the program's text by the card. -/
namespace Go.Proofs.YtaljgcdjkmpljaaDoor
open Go.ChangeShapes Go.WideShapes Go.ChangeAt Go.RowKit Lift
open Go.ChangeMaps (open_string shut_string)
set_option linter.unusedSimpArgs false
set_option linter.unusedVariables false

theorem whole_own : ownKnob Tryd.prog.godebug = none := by kernel_rfl
theorem whole_laid : laidOutB Tryd.prog = true := by kernel_rfl
/-- A world in which the tables lie as the program's text lays them. -/
def whole_first : Obj → Obj
  | .cells _ t frozen => .cells (Lib.firstTab.map (Value.int .u8)).toArray t frozen
  | o => o
def whole_acc : Obj → Obj
  | .cells _ t frozen => .cells ((List.range 16).flatMap (fun i => [Value.int .u8 (Lib.accLo i : Int), Value.int .u8 (Lib.accHi i : Int)])).toArray t frozen
  | o => o
noncomputable def whole_world (os : Os) : World :=
  { World.holding Tryd.prog os ⟨#[], #[], []⟩ with heap := ((World.holding Tryd.prog os ⟨#[], #[], []⟩).heap.modify 0 whole_first).modify 1 whole_acc }
theorem whole_met (os : Os) : laidMet Tryd.prog Rows.journalWholeRow.laid ((whole_world os).forCall (fun _ _ => 0) ⟨#[], #[.slice none 0 0, .string ByteArray.empty, .agg #[.slice none 0 0, .slice none 0 0]], []⟩).memory :=
  laidMet_of_run' 8 (by kernel_rfl) (by kernel_rfl)
theorem whole_reads (os : Os) {H : Type} (enc : TypeId × Value → H) : ∃ places, DataW.whole enc Tryd.prog ((whole_world os).forCall (fun _ _ => 0) ⟨#[], #[.slice none 0 0, .string ByteArray.empty, .agg #[.slice none 0 0, .slice none 0 0]], []⟩).memory Tryd.f5.params.toList Rows.journalWholeSpec.vars false (#[.slice none 0 0, .string ByteArray.empty, .agg #[.slice none 0 0, .slice none 0 0]] : Array Value).toList 8 = some ([.nil, .lit (.string []), .agg [.nil, .nil]], [], places) :=
  ⟨[], by kernel_rfl⟩

set_option maxRecDepth 100000 in
theorem whole_lifted (os : Os) (started : os.Started) (H : Type) (enc : TypeId × Value → H) (F : Stop.Interp) :
    ReturnsInHanded {} Tryd.checked os 5 .any ((OpenSpec.ofChange Rows.journalWholeSpec).preRow enc Tryd.prog Tryd.f5 Rows.journalWholeRow.domain false Rows.journalWholeRow.laid) (((OpenSpec.ofChange Rows.journalWholeSpec).at F).post enc Tryd.prog Tryd.f5 false true false false) := by
  obtain ⟨places, hx⟩ := whole_reads os enc
  refine law_carded (C := Tryd.checked) 4 whole_own started (by kernel_rfl) Tryd.func5 whole_laid rfl (by kernel_rfl) Tryd.underlying4 (by kernel_rfl)
    (fun ds h => by match ds, h with | [_, _, _], _ => rfl)
    (witness_row_at (enc := enc) (C := Tryd.checked) false (whole_world os) #[.slice none 0 0, .string ByteArray.empty, .agg #[.slice none 0 0, .slice none 0 0]] rfl (by kernel_rfl) (by kernel_rfl) (by kernel_rfl)
      (OpenSpec.preRow_of_cond 8 hx (by kernel_rfl) (fun k hk => by cases hk) (by kernel_rfl) (whole_met os))) ?_
  intro W base args ds p hval0 hA0 hfz hz0 hL hsh
  have hz : ∀ (j : Nat) t d, Tryd.f5.params.toList[j]? = some t → ds[j]? = some d → ∀ n ∈ d.weights Tryd.prog t, n ≤ reachBytes := hz0
  have hval : ∀ (j : Nat) t v, Tryd.f5.params[j]? = some t → args[j]? = some v → Value.okWide Tryd.prog W .any base t v := hval0
  have hA : DataW.TrodAll enc Tryd.prog W 0 (fun _ => true) true Tryd.f5.params.toList args.toList ds p := hA0
  rw [Tryd.params5] at hA hval
  obtain ⟨v0, vs0, d0, ds0, p0, q0, hargs, rfl, rfl, h0, r0⟩ := trodAll_cons hA
  obtain ⟨v1, vs1, d1, ds1, p1, q1, rfl, rfl, rfl, h1, r1⟩ := trodAll_cons r0
  obtain ⟨v2, vs2, d2, ds2, p2, q2, rfl, rfl, rfl, h2, r2⟩ := trodAll_cons r1
  obtain ⟨rfl, rfl, rfl⟩ := trodAll_nil r2
  obtain rfl : args = #[v0, v1, v2] := by cases args; simp_all
  obtain ⟨l0, ao0, cap0, rfl, c0⟩ := Rd.arg_slice at_22 Tryd.underlying22 (hval 0 22 v0 rfl rfl) h0 (hz 0 22 d0 rfl rfl)
  obtain ⟨a1, rfl, _, _, _⟩ := open_string Tryd.underlying9 (hval 1 9 v1 rfl rfl) h1
  obtain ⟨l2, cs2, rfl, c2⟩ := Rd.arg_struct at_45 Tryd.underlying45 (hval 2 45 v2 rfl rfl) h2 (hz 2 45 d2 rfl rfl)
  exact law_whole ao0 cap0 l0 a1 cs2 l2 W c0 c2


theorem whole_said : Rows.JournalWholeSaid :=
  OpenClaim.holds_of_cond 5 Tryd.f5 rfl rfl rfl rfl rfl rfl rfl ⟨rfl, rfl, rfl, rfl, rfl⟩ rfl rfl rfl rfl rfl (by kernel_rfl) Tryd.func5 (by kernel_rfl)
    (of_decide_eq_true (by kernel_rfl)) (by unfold Func.isWrapper; rw [if_neg (of_decide_eq_false (by kernel_rfl))]; exact ⟨rfl, rfl⟩)
    (fun os started H enc _ F => by rw [OpenClaim.pre_eq_preRow]; exact whole_lifted os started H enc F)
theorem whole_plain (f : FuncId) (fn : Func) (hf : Tryd.pinned.checked.prog.funcNamed "cardcase/cardcaselaw24.JournalWhole" = some f) (hfn : Tryd.pinned.checked.prog.funcs[f]? = some fn) :
    false = Tryd.pinned.checked.prog.looks [] ∧ ∀ (j : Nat) t, fn.params[j]? = some t → Tryd.pinned.checked.prog.wantsStandIn t = false := by
  obtain rfl : f = 5 := Option.some.inj ((show Tryd.prog.funcNamed "cardcase/cardcaselaw24.JournalWhole" = some 5 by kernel_rfl).symm.trans hf) |>.symm
  obtain rfl : fn = Tryd.f5 := (Option.some.inj (Tryd.func5.symm.trans hfn)).symm
  refine ⟨by kernel_rfl, fun j t ht => ?_⟩
  have hall : (Tryd.f5.params.toList.all fun t => !Tryd.prog.wantsStandIn t) = true := by kernel_rfl
  have hm := List.all_eq_true.1 hall t (by simpa using Array.mem_of_getElem? ht)
  exact Bool.not_eq_true' _ ▸ hm
/-- THE CARD. -/
theorem whole_card : Rows.JournalWholeCardSaid :=
  Claim7.holds_tied_plain_at .later [] _ _ _ _ whole_said (fun _ h => by cases h) (by kernel_rfl) (fun _ h => by cases h) journalWhole_row_tie rfl ⟨rfl, rfl⟩ (by kernel_rfl) rfl whole_plain (by kernel_rfl)

end Go.Proofs.YtaljgcdjkmpljaaDoor
