/- A line that is read: the document's Parse. -/
import Derived.Test.YtioeobkneikgfaaPrParseR0
import Derived.Deep.RegionLaw
import Derived.IntWalk
namespace Go.Proofs.Ytioeobkneikgfaa
open Go.RowKit Lift
set_option linter.unusedSimpArgs false
set_option linter.unusedVariables false

set_option maxHeartbeats 16000000 in
set_option maxRecDepth 100000 in
theorem parser_group (s : ByteArray) (w : World) (hs : s.size ≤ 100000) (hq : findL s 0 s.size 58 < s.size) (hD : findL s 0 (findL s 0 (findL s 0 s.size 58) 59) 46 < findL s 0 (findL s 0 s.size 58) 59) : Calls Try.prog 21 #[.string s] w (ReadPost (readP s) w) := by
  obtain ⟨i0, hi, hz0, hz1, hz2⟩ := par_info0
  have HI := Lib.hid hi; have HZ0 := Lib.hid hz0; have HZ1 := Lib.hid hz1; have HZ2 := Lib.hid hz2
  clear hi hz0 hz1 hz2
  have hE := findL_le s 0 s.size 58 (by omega) (by omega)
  have HF0 := Lib.hid (fun w => find_ref s 0 s.size 58 w (by omega) (by omega) hs)
  have hR : readP s = readP s := rfl
  conv at hR => rhs; unfold readP
  rw [if_pos hq, if_pos hD] at hR
  obtain ⟨E, hEE⟩ : ∃ E, findL s 0 s.size 58 = E := ⟨_, rfl⟩
  rw [hEE] at HF0 hE hq hR hD
  have hT := findL_le s 0 E 59 (by omega) (by omega)
  have HF1 := Lib.hid (fun w => find_ref s 0 E 59 w (by omega) (by omega) hs)
  obtain ⟨T, hTT⟩ : ∃ T, findL s 0 E 59 = T := ⟨_, rfl⟩
  rw [hTT] at HF1 hT hR hD
  have hDl := findL_le s 0 T 46 (by omega) (by omega)
  have HF2 := Lib.hid (fun w => find_ref s 0 T 46 w (by omega) (by omega) hs)
  obtain ⟨D, hDD⟩ : ∃ D, findL s 0 T 46 = D := ⟨_, rfl⟩
  rw [hDD] at HF2 hR hD hDl
  have HE1 := Lib.hid (show ∀ w, Calls Try.prog 45 #[.string s, .int .i64 0, .int .i64 s.size, .int .u8 58] w (IntPost .i64 E w) from HF0.out)
  have HE2 := Lib.hid (show ∀ w, Calls Try.prog 45 #[.string s, .int .i64 0, .int .i64 E, .int .u8 59] w (IntPost .i64 T w) from HF1.out)
  have HE3 := Lib.hid (show ∀ w, Calls Try.prog 45 #[.string s, .int .i64 0, .int .i64 T, .int .u8 46] w (IntPost .i64 D w) from HF2.out)
  clear HF0 HF1 HF2
  have hRz : (s.extract (E + 1) s.size).size = s.size - (E + 1) := seg_size s (by omega)
  have HCapG := Lib.hid (fun w => upper_ref (s.extract 0 D) w (by rw [seg_size s (by omega)]; omega))
  have HCapN := Lib.hid (fun w => upper_ref (s.extract (D + 1) T) w (by rw [seg_size s (by omega)]; omega))
  unfold nameP at hR
  obtain ⟨G, hG⟩ : ∃ G, upS (s.extract 0 D) = G := ⟨_, rfl⟩
  rw [hG] at HCapG hR
  obtain ⟨N, hN⟩ : ∃ N, upS (s.extract (D + 1) T) = N := ⟨_, rfl⟩
  rw [hN] at HCapN hR
  clear hG hN hDD
  have hD2 : (D : Int) < (T : Int) := by omega
  have HR := Lib.hid hR
  clear hR hTT hEE
  have hlim : E < 100000 := by omega
  have hes : ((E : Int) == (s.size : Int)) = false := by simp; omega
  go_enter Try.func21, Try.ntmps21
  go_wp2_with fail
  have hA : FA w.heap.size w _ := FA.mk0 (Below.refl _ _)
  refine (HE1.out _).mono ?_
  rintro e w1 ⟨rfl, rfl⟩
  go_wp2_with fail
  have hB := FB.mk0 hA
  clear hA
  refine (HE2.out _).mono ?_
  rintro e w2 ⟨rfl, rfl⟩
  go_wp2_with fail
  refine (HE3.out _).mono ?_
  rintro e w3 ⟨rfl, rfl⟩
  rw [World.size_alloc] at hB
  go_wp2_with fail
  generalize (w.alloc (Obj.cells #[Value.string ⟨#[]⟩, Value.string ⟨#[]⟩, Value.slice none 0 0, Value.string ⟨#[]⟩, Value.slice none 0 0] 25)).alloc (Obj.cells #[Value.string ⟨#[]⟩, Value.string ⟨#[]⟩, Value.slice none 0 0, Value.string ⟨#[]⟩, Value.slice none 0 0] 25) = w4 at hB ⊢
  refine (HCapG.out _).mono ?_
  rintro e w5 ⟨rfl, hb4⟩
  replace hB := hB.next hb4
  clear hb4
  have hB0 := hB
  obtain ⟨-, ⟨x0, y1, y2, y3, y4⟩, f0, ⟨l1, l2⟩, -⟩ := hB0
  go_wp2_with fail
  replace hB := hB.put0 G
  generalize w5.setCell ⟨w.heap.size + 1, 0, none⟩ (.string G) = w6 at hB ⊢
  clear x0 y1 y2 y3 y4 f0 l1 l2
  refine (name_ref G _).mono ?_
  rintro e w7 ⟨rfl, hb6⟩
  replace hB := hB.next hb6
  clear hb6
  have hB0 := hB
  obtain ⟨hA, ⟨x0, y1, y2, y3, y4⟩, f0, ⟨l1, l2⟩, -⟩ := hB0
  cases hnG : isName G with
  | false =>
    rw [hnG, if_pos rfl] at HR
    have hAX := hA
    obtain ⟨⟨z0, z1, z2, z3, z4⟩, zf, zl, _, _⟩ := hA
    go_wp2_with fail
    refine bodyPost_ret (v := .tuple #[propV ⟨#[]⟩ ⟨#[]⟩ none 0 0 ⟨#[]⟩ none 0 0, .int .i64 0, .int .i64 14]) (by simp [results, Try.results21, go_sem, propV, z0, z1, z2, z3, z4]) rfl ?_
    rw [HR.out]
    exact hAX.fail (by ((repeat (with_reducible refine Kept.set ?_ (by first | omega | (constructor <;> (first | omega | (simp; omega) | (simp; done))) | (simp; omega) | (simp; done)))); with_reducible exact Kept.refl _ _)) _ _
  | true =>
  rw [hnG, if_neg (by decide)] at HR
  clear hnG hA
  go_wp2_with fail
  clear x0 y1 y2 y3 y4 f0 l1 l2
  refine (HCapN.out _).mono ?_
  rintro e w8 ⟨rfl, hb7⟩
  replace hB := hB.next hb7
  clear hb7
  have hB0 := hB
  obtain ⟨-, ⟨x0, y1, y2, y3, y4⟩, f0, ⟨l1, l2⟩, -⟩ := hB0
  go_wp2_with fail
  replace hB := hB.put1 N
  generalize w8.setCell ⟨w.heap.size + 1, 1, none⟩ (.string N) = w9 at hB ⊢
  clear x0 y1 y2 y3 y4 f0 l1 l2
  refine (name_ref N _).mono ?_
  rintro e w10 ⟨rfl, hb9⟩
  replace hB := hB.next hb9
  clear hb9
  have hB0 := hB
  obtain ⟨hA, ⟨x0, y1, y2, y3, y4⟩, f0, ⟨l1, l2⟩, -⟩ := hB0
  cases hnN : isName N with
  | false =>
    rw [hnN, if_pos rfl] at HR
    have hAX := hA
    obtain ⟨⟨z0, z1, z2, z3, z4⟩, zf, zl, _, _⟩ := hA
    go_wp2_with fail
    refine bodyPost_ret (v := .tuple #[propV ⟨#[]⟩ ⟨#[]⟩ none 0 0 ⟨#[]⟩ none 0 0, .int .i64 ((D + 1) : Nat), .int .i64 14]) (by simp [results, Try.results21, go_sem, propV, z0, z1, z2, z3, z4]) rfl ?_
    rw [HR.out]
    exact hAX.fail (by ((repeat (with_reducible refine Kept.set ?_ (by first | omega | (constructor <;> (first | omega | (simp; omega) | (simp; done))) | (simp; omega) | (simp; done)))); with_reducible exact Kept.refl _ _)) _ _
  | true =>
  rw [hnN, if_neg (by decide)] at HR
  clear hnN hA
  go_wp2_with fail
  clear x0 y1 y2 y3 y4 f0 l1 l2
  clear HE1 HE2 HE3 HCapN HCapG
  go_loopw [8] (fun v8 wr => ∃ (st : Nat) (ps : List Par) (ao : Option Addr) (cap : Nat), v8 = .int .i64 st ∧ st ≤ E ∧ ps.length ≤ 6 ∧ Hid (readP s = moreP s E G N ps (st + 1) (decide (st < E))) ∧ FB w.heap.size (w.heap.size + 1) w G N (.slice ao ps.length cap) ps ⟨#[]⟩ wr) (fun v8 _ => E + 1 - (intOf v8).toNat)
  case atStart => exact ⟨T, [], none, 0, rfl, by omega, by simp, HR, hB⟩
  case round =>
    clear hB HR
    obtain ⟨st, ps, ao, cap, rfl, hst, hpl, HR, hB⟩ := hrel
    have hB0 := hB
    obtain ⟨hA, ⟨x0, y1, y2, y3, y4⟩, f0, ⟨l1, l2⟩, hO⟩ := hB0
    by_cases hlt : st < E
    · rw [decide_eq_true hlt] at HR
      have hS := findL_le s (st + 1) E 59 (by omega) (by omega)
      have HC := Lib.hid (fun w => find_ref s (st + 1) E 59 w (by omega) (by omega) hs)
      have HR1 := fun h => Lib.hid (HR.out.trans (moreP_step s E G N ps (st + 1) h))
      have HR2 := fun h => Lib.hid (HR.out.trans (moreP_full s E G N ps (st + 1) h))
      clear HR
      obtain ⟨S, hSS⟩ : ∃ S, findL s (st + 1) E 59 = S := ⟨_, rfl⟩
      rw [hSS] at HC hS HR1
      have HC2 := Lib.hid (show ∀ w, Calls Try.prog 45 #[.string s, .int .i64 ((st : Int) + 1), .int .i64 E, .int .u8 59] w (IntPost .i64 S w) from HC.out)
      have HC3 := Lib.hid (show ∀ w, Calls Try.prog 45 #[.string s, .int .i64 ((st : Int) + 1), .int .i64 S, .int .u8 61] w (IntPost .i64 (findL s (st + 1) S 61) w) from fun w => find_ref s (st + 1) S 61 w (by omega) (by omega) hs)
      have hQ := findL_le s (st + 1) S 61 (by omega) (by omega)
      have HU := Lib.hid (fun w => upper_ref (s.extract (st + 1) S) w (by rw [seg_size s (by omega)]; omega))
      clear HC hSS
      have hlt2 : (st : Int) < (E : Int) := by omega
      go_wp2_with fail
      clear x0 y1 y2 y3 y4 f0 l1 l2 hO hA
      refine (HC2.out _).mono ?_
      rintro e wa ⟨rfl, rfl⟩
      have hB0 := hB
      obtain ⟨hA, ⟨x0, y1, y2, y3, y4⟩, f0, ⟨l1, l2⟩, hO⟩ := hB0
      by_cases hfull : ps.length = 6
      · have HR := HR2 hfull
        have hfe : ((ps.length : Int) == 6) = true := by simp; omega
        clear HR1 HR2 hfull
        have hAX := hA
        obtain ⟨⟨z0, z1, z2, z3, z4⟩, zf, zl, _, _⟩ := hA
        go_wp2_with fail
        refine bodyPost_ret (v := .tuple #[propV ⟨#[]⟩ ⟨#[]⟩ none 0 0 ⟨#[]⟩ none 0 0, .int .i64 (st + 1 : Nat), .int .i64 4]) (by simp [results, Try.results21, go_sem, propV, z0, z1, z2, z3, z4]) rfl ?_
        rw [HR.out]
        exact hAX.fail (by ((repeat (with_reducible refine Kept.set ?_ (by first | omega | (constructor <;> (first | omega | (simp; omega) | (simp; done))) | (simp; omega) | (simp; done)))); with_reducible exact Kept.refl _ _)) _ _
      · have HR := HR1 (by omega)
        have hfe : ((ps.length : Int) == 6) = false := by simp; omega
        have hpl5 : ps.length ≤ 5 := by omega
        clear HR1 HR2 hfull hA HC2
        go_wp2_with fail
        clear x0 y1 y2 y3 y4 f0 l1 l2 hO
        refine (HU.out _).mono ?_
        rintro e wb ⟨rfl, hbb⟩
        replace hB := hB.next hbb
        clear hbb HU
        have hl1 : w.heap.size + 1 < wb.heap.size := hB.lt.2
        obtain ⟨U, hU⟩ : ∃ U, upS (s.extract (st + 1) S) = U := ⟨_, rfl⟩
        rw [hU]
        go_wp2_with fail
        have hX := FC.mk0 hB (⟨#[]⟩, U)
        clear hB
        refine (HC3.out _).mono ?_
        rintro e wc ⟨rfl, rfl⟩
        obtain ⟨X, hXX⟩ : ∃ X, parX s (st + 1) S = X := ⟨_, rfl⟩
        have hOK : okX s (st + 1) S = (isPar X && decide (findL s (st + 1) S 61 ≠ st + 1)) := by unfold okX; rw [hXX]
        rw [hXX] at HR
        obtain ⟨Q, hQQ⟩ : ∃ Q, findL s (st + 1) S 61 = Q := ⟨_, rfl⟩
        rw [hQQ] at HC3 hQ hOK ⊢
        have HOK := Lib.hid hOK
        clear hOK
        by_cases hq2 : Q < S
        case' pos =>
          have hQ2 : (Q : Int) < (S : Int) := by omega
          have hXE : X = (upS (s.extract (st + 1) Q), s.extract (Q + 1) S) := by rw [← hXX]; unfold parX; rw [hQQ, if_pos hq2]
          have HU2 := Lib.hid (fun w => upper_ref (s.extract (st + 1) Q) w (by rw [seg_size s (by omega)]; omega))
          clear hU
          generalize upS (s.extract (st + 1) Q) = U1 at HU2 hXE
          obtain ⟨V, hV⟩ : ∃ V, s.extract (Q + 1) S = V := ⟨_, rfl⟩
          rw [hV] at hXE
          have HXE := Lib.hid hXE
          have HXX := Lib.hid hXX
          clear hXE hXX hQQ
          have hQ3 : Q ≤ s.size := by omega
          have hQ5 : (0 : Int) ≤ (st : Int) + 1 := by omega
          have hQ6 : (0 : Int) ≤ (Q : Int) + 1 := by omega
          have hQ7 : (Q : Int) + 1 ≤ (S : Int) := by omega
          have hQ8 : Q ≤ 100000 := by omega
          have hQ4 : (st : Int) + 1 ≤ (Q : Int) := by omega
          have hS2 : S ≤ s.size := by omega
          clear hq2
          go_wp2_with fail
          generalize wb.alloc (.cells #[.string ⟨#[]⟩, .string U] 42) = wd at hX ⊢
          have hX0 := hX.next ((Below.refl _ _).drew)
          obtain ⟨-, ⟨z0, z1⟩, zf, ⟨zl1, zl2⟩, -⟩ := hX0
          have hQA : ((Q : Int) + 1).toNat = Q + 1 := by omega
          have hQ9 : IntKind.i64.wrap ((Q : Int) + 1) = (Q : Int) + 1 := IntWalk.i64_in _ (by omega)
          go_region_law (go_simp; go_at_call 46; refine (HU2.out _).mono ?_; rintro e we ⟨rfl, hbe⟩; have hX1 := (hX.next ((Below.refl _ _).drew)).next hbe; have hX0 := hX1; obtain ⟨-, ⟨z0, z1⟩, zf, ⟨zl1, zl2⟩, -⟩ := hX0)
          replace hX := hX1.put (U1, V)
          dsimp only at hX
          clear hQA hQ9 hQ5 hQ6 hQ7 hQ8 hX1 z0 z1 zf zl1 zl2 hbe
          rw [← HXE.out] at hX
          generalize (we.setCell ⟨wb.heap.size, 0, none⟩ (.string U1)).setCell ⟨wb.heap.size, 1, none⟩ (.string V) = wf at hX ⊢
          have HPq := Lib.hid (fun w => param_okref X w)
          unfold encPar at HPq
          have hX0 := hX
          obtain ⟨-, ⟨z0, z1⟩, zf, ⟨zl1, zl2⟩, -⟩ := hX0
          go_wp2_with fail
          clear z0 z1 zf zl1 zl2
        case' neg =>
          have hQ2 : ¬ (Q : Int) < (S : Int) := by omega
          have hXE : X = (⟨#[]⟩, U) := by rw [← hXX, ← hU]; unfold parX; rw [hQQ, if_neg hq2]
          have HXE := Lib.hid hXE
          clear hXE hXX hQQ hU hq2
          go_wp2_with fail
          rw [← HXE.out] at hX
          generalize wb.alloc (.cells #[.string ⟨#[]⟩, .string U] 42) = wf at hX ⊢
          have HPq := Lib.hid (show ∀ w, Calls Try.prog 35 #[.agg #[.string ⟨#[]⟩, .string U]] w (BelowPost (.bool (isPar X)) w) from fun w => by rw [HXE.out]; exact param_okref (⟨#[]⟩, U) w)
        all_goals
          clear HXE HC3 hQ2
          refine (HPq.out _).mono ?_
          rintro e wg ⟨rfl, hbg⟩
          replace hX := hX.next hbg
          clear HPq hbg
          cases hv : isPar X with
          | false =>
            rw [HOK.out, hv, Bool.false_and, if_pos rfl] at HR
            clear HOK hv
            have hA := hX.fb.fa
            have hAX := hA
            obtain ⟨⟨z0, z1, z2, z3, z4⟩, zf, zl, _, _⟩ := hA
            go_wp2_with fail
            refine bodyPost_ret (v := .tuple #[propV ⟨#[]⟩ ⟨#[]⟩ none 0 0 ⟨#[]⟩ none 0 0, .int .i64 (st + 1 : Nat), .int .i64 3]) (by simp [results, Try.results21, go_sem, propV, z0, z1, z2, z3, z4]) rfl ?_
            rw [HR.out]
            exact hAX.fail (by ((repeat (with_reducible refine Kept.set ?_ (by first | omega | (constructor <;> (first | omega | (simp; omega) | (simp; done))) | (simp; omega) | (simp; done)))); with_reducible exact Kept.refl _ _)) _ _
          | true =>
            have hfit := isPar_fits hv
            have HQO := Lib.hid (show okPar X from ⟨by unfold maxTx; omega, by unfold maxTx; omega⟩)
            clear hfit
            rw [HOK.out, hv, Bool.true_and] at HR
            clear HOK hv
            by_cases hqe : Q = st + 1
            · rw [decide_eq_false (show ¬ Q ≠ st + 1 from fun h => h hqe), if_pos rfl] at HR
              have hqb : ((Q : Int) == (st : Int) + 1) = true := by simp; omega
              clear hqe
              have hA := hX.fb.fa
              have hAX := hA
              obtain ⟨⟨z0, z1, z2, z3, z4⟩, zf, zl, _, _⟩ := hA
              go_wp2_with fail
              refine bodyPost_ret (v := .tuple #[propV ⟨#[]⟩ ⟨#[]⟩ none 0 0 ⟨#[]⟩ none 0 0, .int .i64 (st + 1 : Nat), .int .i64 3]) (by simp [results, Try.results21, go_sem, propV, z0, z1, z2, z3, z4]) rfl ?_
              rw [HR.out]
              exact hAX.fail (by ((repeat (with_reducible refine Kept.set ?_ (by first | omega | (constructor <;> (first | omega | (simp; omega) | (simp; done))) | (simp; omega) | (simp; done)))); with_reducible exact Kept.refl _ _)) _ _
            · rw [decide_eq_true (show Q ≠ st + 1 from hqe), if_neg (by decide)] at HR
              have hqb : ((Q : Int) == (st : Int) + 1) = false := by simp; omega
              clear hqe
              have hX1 := hX
              have hB4 := hX1.fb
              have hB0 := hX1
              obtain ⟨-, ⟨z0, z1⟩, zf, ⟨zl1, zl2⟩, -⟩ := hB0
              have hB0 := hB4
              obtain ⟨-, ⟨x0, y1, y2, y3, y4⟩, f0, ⟨l1, l2⟩, hO⟩ := hB0
              go_wp2_with (first | (at_builtin; refine wpList_push rPar rfl _ _ 22 rfl (w.heap.size + 1 + 1) 42 i0 _ 32 Try.underlying22 HI.out HZ0.out HZ1.out HZ2.out rfl (by decide) (fun _ => True) _ ps rfl hO (cellsPar X) X _ rfl (by simp) (par_rel _ _ X HQO.out) (by simp [cellsPar, Value.oneCell']) (by unfold maxLen; omega) (by omega) (by omega) ?_; intro v2 w2 hO2 hK2 hw2; obtain ⟨ao2, cap2, rfl⟩ := hO2.form; obtain ⟨m1, m2, m3⟩ := hB4.mid hK2))
              go_roundw
              case measure => simp [intOf]; omega
              case rel => exact ⟨S, ps ++ [X], ao2, cap2, rfl, by omega, by simp; omega, HR, by have h := hB4.push hK2 hO2; rw [show (ps ++ [X]).length = ps.length + 1 by simp] at h ⊢; exact h⟩
    · rw [decide_eq_false hlt] at HR
      have HR1 := Lib.hid (show readP s = tailP s E G N ps from HR.out)
      clear HR
      unfold tailP oddAt at HR1
      have hES : (E : Int) + 1 ≤ (s.size : Int) := by omega
      have hlt2 : ¬ (st : Int) < (E : Int) := by omega
      obtain ⟨xr, hxr⟩ : ∃ x, s.extract (E + 1) s.size = x := ⟨_, rfl⟩
      rw [hxr] at HR1 hRz
      by_cases hbig : 2400 < xr.size
      · have HR := HR1
        rw [if_pos hbig] at HR
        clear HR1
        have hAX := hA
        obtain ⟨⟨z0, z1, z2, z3, z4⟩, zf, zl, -, -⟩ := hA
        go_wp2_with fail
        refine bodyPost_ret (v := .tuple #[propV ⟨#[]⟩ ⟨#[]⟩ none 0 0 ⟨#[]⟩ none 0 0, .int .i64 (E + 1 : Nat), .int .i64 8]) (by simp [results, Try.results21, go_sem, propV, z0, z1, z2, z3, z4, l1, Nat.ne_of_lt l1]) rfl ?_
        rw [HR.out]
        have hB3 := hB.put3 xr
        generalize wr.setCell ⟨w.heap.size + 1, 3, none⟩ (.string xr) = wz at hB3 ⊢
        exact hB3.fa.fail (by ((repeat (with_reducible refine Kept.set ?_ (by first | omega | (constructor <;> (first | omega | (simp; omega) | (simp; done))) | (simp; omega) | (simp; done)))); with_reducible exact Kept.refl _ _)) _ _
      · rw [if_neg hbig] at HR1
        obtain ⟨hc0, hc1⟩ : (s.extract (E + 1) s.size).size = xr.size ∧ (xr.size : Int) ≤ 2400 := ⟨by rw [hxr], by omega⟩
        go_wp2_with fail
        have hB3 := hB.put3 xr
        generalize wr.setCell ⟨w.heap.size + 1, 3, none⟩ (.string xr) = wz at hB3 ⊢
        clear hB hA x0 y1 y2 y3 y4 f0 l1 l2 hO
        have hB0 := hB3
        obtain ⟨hA, ⟨x0, y1, y2, y3, y4⟩, f0, ⟨l1, l2⟩, hO⟩ := hB0
        clear hxr hc0
        go_loopw [12] (fun v12 wq => ∃ k : Nat, k ≤ xr.size ∧ v12 = .int .i64 k ∧ Hid (Lib.NoAny xr.data.toList [0, 10, 13] k) ∧ wq = wz) (fun v12 _ => xr.size - (intOf v12).toNat)
        case atStart => exact ⟨0, by omega, rfl, Lib.hid (Lib.NoAny.zero _ _), rfl⟩
        case round =>
          obtain ⟨k, hk, rfl, hno, rfl⟩ := hrel
          by_cases hkl : k < xr.size
          · have hk2 : (k : Int) < (xr.size : Int) := by omega
            obtain ⟨y, hy⟩ : ∃ y, xr[k]'hkl = y := ⟨_, rfl⟩
            have hyn := y.toNat_lt
            have hlk : k ≤ 2400 := by omega
            have HY := Lib.hid (show xr.data.toList[k]? = some y by rw [← hy]; exact Lib.data_getElem? xr k hkl)
            have HOD := Lib.hid (fun w => odd_any y.toNat hyn w)
            cases hod : oddB y.toNat with
            | true =>
              have HQ := Lib.hid (show Lib.indexAny xr.data.toList [0, 10, 13] = k from Lib.indexAny_hit hno.out HY.out (by rw [contains_odd]; exact hod))
              have HR := Lib.hid (show readP s = fail4 (E + 1 + k) 3 by rw [HR1.out, HQ.out, if_pos (by omega)]; simp)
              rw [hod] at HOD
              clear hod HR1 hno HQ
              go_wp2_with fail
              refine (HOD.out _).mono ?_
              rintro e wq ⟨rfl, rfl⟩
              have hAX := hA
              obtain ⟨⟨z0, z1, z2, z3, z4⟩, zf, zl, _, _⟩ := hA
              go_wp2_with fail
              refine bodyPost_ret (v := .tuple #[propV ⟨#[]⟩ ⟨#[]⟩ none 0 0 ⟨#[]⟩ none 0 0, .int .i64 (E + 1 + k : Nat), .int .i64 3]) (by simp [results, Try.results21, go_sem, propV, z0, z1, z2, z3, z4]) rfl ?_
              rw [HR.out]
              exact hAX.fail (by ((repeat (with_reducible refine Kept.set ?_ (by first | omega | (constructor <;> (first | omega | (simp; omega) | (simp; done))) | (simp; omega) | (simp; done)))); with_reducible exact Kept.refl _ _)) _ _
            | false =>
              have HN := Lib.hid (hno.out.succ HY.out (by rw [contains_odd]; exact hod))
              rw [hod] at HOD
              clear hod hno
              go_wp2_with fail
              refine (HOD.out _).mono ?_
              rintro e wq ⟨rfl, rfl⟩
              go_wp2_with fail
              go_roundw
              case measure => simp [intOf]; omega
              case rel => exact ⟨k + 1, by omega, by go_num, HN, by first | rfl | trivial⟩
          · obtain rfl : k = xr.size := by omega
            have hxl : xr.data.toList.length = xr.size := by simp
            have HR := Lib.hid (show readP s = ((G, N, ps, xr), 0, 0) by rw [HR1.out, Lib.indexAny_none (by rw [hxl]; exact hno.out), if_neg (by decide)])
            clear HR1 hno hxl
            obtain ⟨⟨z0, z1, z2, z3, z4⟩, zf, zl, -, -⟩ := hA
            have hne : w.heap.size ≠ w.heap.size + 1 := by omega
            go_wp2_with fail
            refine bodyPost_ret (v := .tuple #[propV G N ao ps.length cap xr none 0 0, .int .i64 0, .int .i64 0]) (by simp [results, Try.results21, go_sem, propV, z0, z1, z2, z3, z4, x0, y1, y2, y3, y4, hne]) rfl ?_
            rw [HR.out]
            exact hB3.done (by ((repeat (with_reducible refine Kept.set ?_ (by first | omega | (constructor <;> (first | omega | (simp; omega) | (simp; done))) | (simp; omega) | (simp; done)))); with_reducible exact Kept.refl _ _))
end Go.Proofs.Ytioeobkneikgfaa
