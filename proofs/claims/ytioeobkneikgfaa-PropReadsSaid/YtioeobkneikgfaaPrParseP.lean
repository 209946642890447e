/- A line that is read: the program's Parse. -/
import Derived.Test.YtioeobkneikgfaaPrPure
namespace Go.Proofs.Ytioeobkneikgfaa
open Go.RowKit Lift
set_option linter.unusedSimpArgs false
set_option linter.unusedVariables false


set_option maxHeartbeats 16000000 in
set_option maxRecDepth 100000 in
theorem parse_plain (s : ByteArray) (w : World) (hs : s.size ≤ 100000) (hq : findL s 0 s.size 58 < s.size) (hD : ¬ findL s 0 (findL s 0 (findL s 0 s.size 58) 59) 46 < findL s 0 (findL s 0 s.size 58) 59) : Calls Try.prog 20 #[.string s] w (ReadPost (readP s) w) := by
  obtain ⟨i0, hi, hz0, hz1, hz2⟩ := par_info0
  have HI := Lib.hid hi; have HZ0 := Lib.hid hz0; have HZ1 := Lib.hid hz1; have HZ2 := Lib.hid hz2
  clear hi hz0 hz1 hz2
  have hE := findL_le s 0 s.size 58 (by omega) (by omega)
  have HCut0 := Lib.hid (fun w => cut_any s 58 w (by omega))
  have e0 := cut_ext s 0 s.size 58 (by omega) (by omega)
  rw [extract_all, if_pos hq] at e0
  rw [e0] at HCut0
  have hR : readP s = readP s := rfl
  conv at hR => rhs; unfold readP
  rw [if_pos hq, if_neg hD] at hR
  clear e0
  obtain ⟨E, hEE⟩ : ∃ E, findL s 0 s.size 58 = E := ⟨_, rfl⟩
  rw [hEE] at HCut0 hE hq hR hD
  have hT := findL_le s 0 E 59 (by omega) (by omega)
  obtain ⟨P1, hP1, e1⟩ := cut_ext2 s 0 E 59 (by omega) (by omega)
  have HCut1 := Lib.hid (fun w => cut_any (s.extract 0 E) 59 w (by rw [seg_size s (by omega)]; omega))
  rw [e1] at HCut1
  obtain ⟨T, hTT⟩ : ∃ T, findL s 0 E 59 = T := ⟨_, rfl⟩
  rw [hTT] at HCut1 hT hR hD hP1
  clear e1
  have hDl := findL_le s 0 T 46 (by omega) (by omega)
  have HCut2 := Lib.hid (fun w => cut_any (s.extract 0 T) 46 w (by rw [seg_size s (by omega)]; omega))
  rw [cut_ext s 0 T 46 (by omega) (by omega), if_neg hD] at HCut2
  have hEz : (s.extract 0 E).size = E := by rw [seg_size s (by omega)]; omega
  have hRz : (s.extract (E + 1) s.size).size = s.size - (E + 1) := seg_size s (by omega)
  have hNz : (s.extract 0 T).size = T := by rw [seg_size s (by omega)]; omega
  have HCapN := Lib.hid (fun w => capitals_any (s.extract 0 T) w (by rw [seg_size s (by omega)]; omega))
  unfold nameP at hR
  generalize s.extract 0 T = x2 at HCut1 HCut2 HCapN hNz hR
  obtain ⟨N, hN⟩ : ∃ N, upS x2 = N := ⟨_, rfl⟩
  rw [hN] at HCapN hR
  clear hN
  generalize s.extract 0 E = xE at HCut0 HCut1 hEz
  generalize hxr : s.extract (E + 1) s.size = xr at HCut0 hRz
  have HX := Lib.hid hxr
  obtain ⟨M, hM⟩ : ∃ M, decide (T < E) = M := ⟨_, rfl⟩
  have HMT := Lib.hid (show M = true → T < E from fun h => by rw [h] at hM; exact of_decide_eq_true hM)
  rw [hM] at HCut1 hR
  have HP1 := Lib.hid hP1
  have HR := Lib.hid hR
  have HD := Lib.hid hD
  clear hR hP1 hxr hTT hEE hM hD
  unfold CutPost at *
  have hlim : E < 100000 := by omega
  go_enter Try.func20, Try.ntmps20
  go_wp2_with fail
  refine (HCut0.out _).mono ?_
  rintro e w1 ⟨rfl, hb1⟩
  have hA := FA.mk0 (by rw [World.size_alloc] at hb1; exact hb1)
  clear hb1
  go_wp2_with fail
  have hB := FB.mk0 hA
  clear hA
  refine (HCut1.out _).mono ?_
  rintro e w2 ⟨rfl, hb2⟩
  replace hB := hB.next hb2
  clear hb2
  go_wp2_with fail
  refine (HCut2.out _).mono ?_
  rintro e w3 ⟨rfl, hb3⟩
  replace hB := hB.next hb3
  clear hb3
  go_wp2_with fail
  refine (HCapN.out _).mono ?_
  rintro e w7 ⟨rfl, hb7⟩
  replace hB := hB.next hb7
  clear hb7
  have hB0 := hB
  obtain ⟨-, ⟨x0, y1, y2, y3, y4⟩, f0, ⟨l1, l2⟩, -⟩ := hB0
  go_wp2_with fail
  replace hB := hB.put1 N
  generalize w7.setCell ⟨w1.heap.size, 1, none⟩ (.string N) = w8 at hB ⊢
  clear x0 y1 y2 y3 y4 f0 l1 l2
  refine (name_any N _).mono ?_
  rintro e w9 ⟨rfl, hb9⟩
  replace hB := hB.next hb9
  clear hb9
  have hB0 := hB
  obtain ⟨hA, ⟨x0, y1, y2, y3, y4⟩, f0, ⟨l1, l2⟩, _⟩ := hB0
  cases hnN : isName N with
  | false =>
    rw [hnN, if_pos rfl] at HR
    have hAX := hA
    obtain ⟨⟨z0, z1, z2, z3, z4⟩, zf, zl, _, _⟩ := hA
    go_wp2_with fail
    refine bodyPost_ret (v := .tuple #[propV ⟨#[]⟩ ⟨#[]⟩ none 0 0 ⟨#[]⟩ none 0 0, .int .i64 (0 : Nat), .int .i64 14]) (by simp [results, Try.results20, go_sem, propV, z0, z1, z2, z3, z4]) rfl ?_
    rw [HR.out]
    exact hAX.fail (by ((repeat (with_reducible refine Kept.set ?_ (by first | omega | (constructor <;> (first | omega | (simp; omega) | (simp; done))) | (simp; omega) | (simp; done)))); with_reducible exact Kept.refl _ _)) _ _
  | true =>
  rw [hnN, if_neg (by decide)] at HR
  clear hnN hA
  go_wp2_with fail
  clear x0 y1 y2 y3 y4 f0 l1 l2
  have hGN := hB
  clear HCut0 HCut1 HCut2 HCapN  HD
  go_loopw [10, 11, 12] (fun v10 v11 v12 wr => ∃ (a : Nat) (ps : List Par) (ao : Option Addr) (cap : Nat) (x : ByteArray) (m : Bool), v10 = .string x ∧ v11 = .bool m ∧ v12 = .int .i64 a ∧ a ≤ E + 1 ∧ ps.length ≤ 6 ∧ Hid (m = true → a ≤ E ∧ x = s.extract a E) ∧ Hid (readP s = moreP s E ⟨#[]⟩ N ps a m) ∧ FB w.heap.size w1.heap.size w ⟨#[]⟩ N (.slice ao ps.length cap) ps ⟨#[]⟩ wr) (fun _ _ v12 _ => E + 2 - (intOf v12).toNat)
  case atStart => exact ⟨T + 1, [], none, 0, P1, M, rfl, rfl, by go_num, by omega, by simp, Lib.hid (fun h => ⟨HMT.out h, HP1.out (HMT.out h)⟩), HR, hB⟩
  case round =>
    clear hB hGN HP1 HMT HR
    obtain ⟨a, ps, ao, cap, x, m, rfl, rfl, rfl, ha, hpl, hmx, HR, hB⟩ := hrel
    have hB0 := hB
    obtain ⟨hA, ⟨x0, y1, y2, y3, y4⟩, f0, ⟨l1, l2⟩, hO⟩ := hB0
    cases m with
    | true =>
      obtain ⟨haE, hxe⟩ := hmx.out rfl
      have hS := findL_le s a E 59 haE (by omega)
      obtain ⟨P, hP, e2⟩ := cut_ext2 s a E 59 haE (by omega)
      have HC := Lib.hid (fun w => cut_any x 59 w (by rw [hxe, seg_size s (by omega)]; omega))
      rw [show cutB x 59 = cutB (s.extract a E) 59 from by rw [hxe], e2] at HC
      have HR1 := fun h => Lib.hid (HR.out.trans (moreP_step s E ⟨#[]⟩ N ps a h))
      have HR2 := fun h => Lib.hid (HR.out.trans (moreP_full s E ⟨#[]⟩ N ps a h))
      clear e2 hxe hmx HR
      obtain ⟨S, hSS⟩ : ∃ S, findL s a E 59 = S := ⟨_, rfl⟩
      rw [hSS] at HC hS hP HR1
      have HPar := Lib.hid (fun w => param1_any s a S w (by omega) (by omega) (by omega))
      have hyz : (s.extract a S).size = S - a := seg_size s (by omega)
      generalize s.extract a S = y at HC HPar hyz
      obtain ⟨M2, hM2⟩ : ∃ M, decide (S < E) = M := ⟨_, rfl⟩
      have HMT2 := Lib.hid (show M2 = true → S < E from fun h => by rw [h] at hM2; exact of_decide_eq_true hM2)
      rw [hM2] at HC HR1
      have HP := Lib.hid hP
      clear hSS hM2 hP
      unfold CutPost at HC
      clear x0 y1 y2 y3 y4 f0 l1 l2 hO hA
      go_wp2_with fail
      refine (HC.out _).mono ?_
      rintro e wa ⟨rfl, hba⟩
      replace hB := hB.next hba
      clear hba
      have hB0 := hB
      obtain ⟨hA, ⟨x0, y1, y2, y3, y4⟩, f0, ⟨l1, l2⟩, hO⟩ := hB0
      by_cases hfull : ps.length = 6
      · have HR := HR2 hfull
        have hfe : ((ps.length : Int) == 6) = true := by simp; omega
        clear HR1 HR2 hfull
        have hAX := hA
        obtain ⟨⟨z0, z1, z2, z3, z4⟩, zf, zl, _, _⟩ := hA
        go_wp2_with fail
        refine bodyPost_ret (v := .tuple #[propV ⟨#[]⟩ ⟨#[]⟩ none 0 0 ⟨#[]⟩ none 0 0, .int .i64 a, .int .i64 4]) (by simp [results, Try.results20, go_sem, propV, z0, z1, z2, z3, z4]) rfl ?_
        rw [HR.out]
        exact hAX.fail (by ((repeat (with_reducible refine Kept.set ?_ (by first | omega | (constructor <;> (first | omega | (simp; omega) | (simp; done))) | (simp; omega) | (simp; done)))); with_reducible exact Kept.refl _ _)) _ _
      · have HR := HR1 (by omega)
        have hfe : ((ps.length : Int) == 6) = false := by simp; omega
        have hpl5 : ps.length ≤ 5 := by omega
        clear HR1 HR2 hfull hA
        go_wp2_with fail
        clear x0 y1 y2 y3 y4 f0 l1 l2 hO
        refine (HPar.out _).mono ?_
        rintro e wb ⟨q, rfl, hq, hbb⟩
        replace hB := hB.next hbb
        clear hbb
        unfold encPar
        have HQ := Lib.hid hq
        clear hq
        cases hok : okX s a S with
        | false =>
          rw [hok, if_pos rfl] at HR
          have hB0 := hB
          obtain ⟨hA, ⟨x0, y1, y2, y3, y4⟩, f0, ⟨l1, l2⟩, hO⟩ := hB0
          have hAX := hA
          have zne : w.heap.size ≠ wb.heap.size := by have := hA.lt; omega
          clear hok
          obtain ⟨⟨z0, z1, z2, z3, z4⟩, zf, zl, _, _⟩ := hA
          go_wp2_with fail
          refine bodyPost_ret (v := .tuple #[propV ⟨#[]⟩ ⟨#[]⟩ none 0 0 ⟨#[]⟩ none 0 0, .int .i64 a, .int .i64 3]) (by simp [results, Try.results20, go_sem, propV, z0, z1, z2, z3, z4, zl, zne]) rfl ?_
          rw [HR.out]
          exact hAX.fail (by (refine Kept.new ?_; ((repeat (with_reducible refine Kept.set ?_ (by first | omega | (constructor <;> (first | omega | (simp; omega) | (simp; done))) | (simp; omega) | (simp; done)))); with_reducible exact Kept.refl _ _))) _ _
        | true =>
          rw [hok, if_neg (by decide)] at HR
          have hqe := HQ.out hok
          have HQO := Lib.hid (show okPar q from by
            have h1 : isPar q = true := by rw [hqe]; unfold okX at hok; rw [Bool.and_eq_true] at hok; exact hok.1
            have h2 := isPar_fits h1
            exact ⟨by unfold maxTx; omega, by unfold maxTx; omega⟩)
          clear hok HQ
          have hA1 : Below wb.heap.size wb (wb.alloc (.cells #[.string q.1, .string q.2] 42)) := (Below.refl _ _).alloc (Nat.le_refl _) _
          have hB4 := hB.next hA1
          have hB0 := hB4
          obtain ⟨hA, ⟨x0, y1, y2, y3, y4⟩, f0, ⟨l1, l2⟩, hO⟩ := hB0
          have hl1 : w1.heap.size < wb.heap.size := hB.lt.2
          have HQE := Lib.hid hqe
          clear hqe hB hA1
          go_wp2_with (first | (at_builtin; refine wpList_push rPar rfl _ _ 22 rfl (w1.heap.size + 1) 42 i0 _ 32 Try.underlying22 HI.out HZ0.out HZ1.out HZ2.out rfl (by decide) (fun _ => True) _ ps rfl hO (cellsPar q) q _ rfl (by simp) (par_rel _ _ q HQO.out) (by simp [cellsPar, Value.oneCell']) (by unfold maxLen; omega) (by omega) (by simp; omega) ?_; intro v2 w2 hO2 hK2 hw2; obtain ⟨ao2, cap2, rfl⟩ := hO2.form; obtain ⟨m1, m2, m3⟩ := hB4.mid hK2))
          go_roundw
          case measure => simp [intOf]; omega
          case rel => exact ⟨S + 1, ps ++ [q], ao2, cap2, P, M2, rfl, rfl, by go_num, by omega, by simp; omega, Lib.hid (fun h => ⟨HMT2.out h, HP.out (HMT2.out h)⟩), Lib.hid (by rw [HR.out, HQE.out]), by have h := hB4.push hK2 hO2; rw [show (ps ++ [q]).length = ps.length + 1 by simp] at h ⊢; exact h⟩
    | false =>
      have HR1 := Lib.hid (show readP s = tailP s E ⟨#[]⟩ N ps from HR.out)
      clear HR hmx
      unfold tailP at HR1
      rw [HX.out] at HR1
      by_cases hbig : 2400 < xr.size
      · have HR := HR1
        rw [if_pos hbig] at HR
        have hAX := hA
        clear HR1 x0 y1 y2 y3 y4 f0 l1 l2 hO
        obtain ⟨⟨z0, z1, z2, z3, z4⟩, zf, zl, _, _⟩ := hA
        go_wp2_with fail
        refine bodyPost_ret (v := .tuple #[propV ⟨#[]⟩ ⟨#[]⟩ none 0 0 ⟨#[]⟩ none 0 0, .int .i64 (E + 1 : Nat), .int .i64 8]) (by simp [results, Try.results20, go_sem, propV, z0, z1, z2, z3, z4]) rfl ?_
        rw [HR.out]
        exact hAX.fail (by ((repeat (with_reducible refine Kept.set ?_ (by first | omega | (constructor <;> (first | omega | (simp; omega) | (simp; done))) | (simp; omega) | (simp; done)))); with_reducible exact Kept.refl _ _)) _ _
      · rw [if_neg hbig] at HR1
        have HI2 := Lib.hid (fun w => indexAny_any xr ⟨#[0, 10, 13]⟩ w (by decide) (by decide) (by omega) odd3_low)
        have hlt := indexAny_lt [0, 10, 13] xr.data.toList
        have hge := Lib.indexAny_ge [0, 10, 13] xr.data.toList
        have hxl : xr.data.toList.length = xr.size := by simp
        rw [hxl] at hlt
        unfold oddAt at HR1
        rw [show (⟨#[0, 10, 13]⟩ : ByteArray).data.toList = [0, 10, 13] from rfl] at HI2
        generalize Lib.indexAny xr.data.toList [0, 10, 13] = q at *
        clear hxl
        rcases (show q = -1 ∨ 0 ≤ q by omega) with rfl | hq0
        · have HR := HR1
          rw [if_neg (by decide)] at HR
          clear HR1 hA
          go_wp2_with fail
          refine (HI2.out _).mono ?_
          clear x0 y1 y2 y3 y4 f0 l1 l2 hO
          rintro e wb ⟨rfl, hbb⟩
          replace hB := hB.next hbb
          clear hbb
          have hB0 := hB
          obtain ⟨hA, ⟨x0, y1, y2, y3, y4⟩, f0, ⟨l1, l2⟩, hO⟩ := hB0
          have hAX := hA
          obtain ⟨⟨z0, z1, z2, z3, z4⟩, zf, zl, _, _⟩ := hA
          have hne : w.heap.size ≠ w1.heap.size := by omega
          have hne2 : w1.heap.size ≠ w.heap.size := by omega
          go_wp2_with fail
          refine bodyPost_ret (v := .tuple #[propV ⟨#[]⟩ N ao ps.length cap xr none 0 0, .int .i64 0, .int .i64 0]) (by simp [results, Try.results20, go_sem, propV, z0, z1, z2, z3, z4, x0, y1, y2, y3, y4, hne, hne2]) rfl ?_
          rw [HR.out]
          have hB3 := hB.put3 xr
          generalize wb.setCell ⟨w1.heap.size, 3, none⟩ (.string xr) = wz at hB3 ⊢
          exact hB3.done (by ((repeat (with_reducible refine Kept.set ?_ (by first | omega | (constructor <;> (first | omega | (simp; omega) | (simp; done))) | (simp; omega) | (simp; done)))); with_reducible exact Kept.refl _ _))
        · obtain ⟨i, rfl⟩ := Int.eq_ofNat_of_zero_le hq0
          have HR := HR1
          rw [if_pos (by simp)] at HR
          clear HR1 hA hq0
          go_wp2_with fail
          refine (HI2.out _).mono ?_
          clear x0 y1 y2 y3 y4 f0 l1 l2 hO
          rintro e wb ⟨rfl, hbb⟩
          replace hB := hB.next hbb
          clear hbb
          have hB0 := hB
          obtain ⟨hA, ⟨x0, y1, y2, y3, y4⟩, f0, ⟨l1, l2⟩, hO⟩ := hB0
          have hAX := hA
          have hil : i ≤ 2400 := by omega
          obtain ⟨⟨z0, z1, z2, z3, z4⟩, zf, zl, _, _⟩ := hA
          go_wp2_with fail
          refine bodyPost_ret (v := .tuple #[propV ⟨#[]⟩ ⟨#[]⟩ none 0 0 ⟨#[]⟩ none 0 0, .int .i64 (E + 1 + i : Nat), .int .i64 3]) (by simp [results, Try.results20, go_sem, propV, z0, z1, z2, z3, z4]) rfl ?_
          rw [HR.out]
          exact hAX.fail (by ((repeat (with_reducible refine Kept.set ?_ (by first | omega | (constructor <;> (first | omega | (simp; omega) | (simp; done))) | (simp; omega) | (simp; done)))); with_reducible exact Kept.refl _ _)) _ _
end Go.Proofs.Ytioeobkneikgfaa
