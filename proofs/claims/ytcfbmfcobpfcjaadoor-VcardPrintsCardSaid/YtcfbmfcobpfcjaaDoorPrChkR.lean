/- What is wrong with a property: the document's Check. -/
import Derived.Test.YtcfbmfcobpfcjaaDoorPrChk
namespace Go.Proofs.YtcfbmfcobpfcjaaDoor
open Go.RowKit Lift
set_option linter.unusedSimpArgs false
set_option linter.unusedVariables false

theorem any_at2 {α : Type} {p : α → Bool} {l : List α} {k : Nat} {c : α} (h : l[k]? = some c) : (l.drop k).any p = (p c || (l.drop (k + 1)).any p) := by
  rw [drop_at2 h, List.any_cons]

set_option maxHeartbeats 8000000 in
set_option maxRecDepth 100000 in
theorem check_ref (g n v : ByteArray) (aa : Option Addr) (na ca : Nat) (ao : Option Addr) (cap : Nat) (l : List Par) (w : World) (hl : SlAt rPar (· < w.heap.size) w ao l) (hlen : l.length ≤ 100000) (hv : v.size ≤ 100000) :
    Calls Tryd.prog 45 #[propV g n ao l.length cap v aa na ca] w (BelowPost (.int .i64 (chkP g n l v na)) w) := by
  unfold propV
  have he := empty_iff g
  have hA : Below w.heap.size w (w.alloc (propC g n ao l.length cap v aa na ca)) := (Below.refl _ _).alloc (Nat.le_refl _) _
  by_cases hg : decide (g.size = 0) = false ∧ isName g = false
  · have HR := Lib.hid (show chkP g n l v na = 14 by unfold chkP badNames; rw [hg.1, hg.2]; rfl)
    have HN := Lib.hid hg.2
    rw [hg.1] at he
    clear hg
    go_enter Tryd.func45, Tryd.ntmps45
    go_wp2_with fail
    refine (name_ref _ _).mono ?_
    rintro e w3 ⟨rfl, hb3⟩
    rw [HN.out]
    go_wp2_with fail
    go_ret
    exact ⟨by rw [HR.out]; rfl, chain hA hb3⟩
  have hg2 : decide (g.size = 0) = true ∨ (decide (g.size = 0) = false ∧ isName g = true) := by
    cases h1 : decide (g.size = 0)
    · cases h2 : isName g
      · exact absurd ⟨h1, h2⟩ hg
      · exact .inr ⟨rfl, rfl⟩
    · exact .inl rfl
  have hGG : (!decide (g.size = 0) && !isName g) = false := by
    rcases hg2 with h | ⟨h, h2⟩
    · rw [h]; rfl
    · rw [h, h2]; rfl
  have HG := Lib.hid hGG
  clear hGG
  clear hg
  rcases hg2 with h0 | ⟨h0, h1⟩
  case' inl =>
    rw [h0] at he
    clear h0
    go_enter Tryd.func45, Tryd.ntmps45
    go_wp2_with fail
    refine (name_ref n _).mono ?_
    rintro e w3 ⟨rfl, hb3⟩
    rw [World.size_alloc] at hb3
  case' inr =>
    rw [h0] at he
    have HN := Lib.hid h1
    clear h0 h1
    go_enter Tryd.func45, Tryd.ntmps45
    go_wp2_with fail
    refine (name_ref g _).mono ?_
    rintro e w2 ⟨rfl, hb2⟩
    rw [HN.out]
    rw [World.size_alloc] at hb2
    have hW2 := hb2.size
    rw [World.size_alloc] at hW2
    obtain ⟨x0, x1, x2, x3, x4⟩ := boxCells hb2
    go_wp2_with fail
    clear x0 x1 x2 x3 x4
    refine (name_ref n _).mono ?_
    rintro e w3 ⟨rfl, hb3⟩
    replace hb3 := hb2.trans (hb3.mono hW2)
    clear hb2 hW2
  all_goals
    have hW3 := hb3.size
    rw [World.size_alloc] at hW3
    have hB3 := hA.trans (hb3.mono (by omega))
    obtain ⟨x0, x1, x2, x3, x4⟩ := boxCells hb3
    cases hn : isName n with
    | false =>
      have HR := Lib.hid (show chkP g n l v na = 14 by unfold chkP badNames; rw [HG.out, hn]; rfl)
      clear hn
      go_wp2_with fail
      go_ret
      exact ⟨by rw [HR.out]; rfl, hB3⟩
    | true =>
      have HBN := Lib.hid (show ¬ (badNames g n = true) by unfold badNames; rw [HG.out, hn]; simp)
      clear hn
      by_cases h6 : 6 < l.length
      · have HR := Lib.hid (show chkP g n l v na = 4 by unfold chkP; rw [if_neg HBN.out, if_pos h6])
        have h6z : (6 : Int) < (l.length : Int) := by omega
        go_wp2_with fail
        go_ret
        exact ⟨by rw [HR.out]; rfl, hB3⟩
      have h6z : ¬ ((6 : Int) < (l.length : Int)) := by omega
      go_wp2_with fail
      clear x0 x1 x2 x3 x4
      go_loopw [3] (fun v3 wr => ∃ k : Nat, k ≤ l.length ∧ v3 = .int .i64 k ∧ Hid ((l.any fun c => !isPar c) = (l.drop k).any fun c => !isPar c) ∧ Below (w.heap.size + 1) (w.alloc (propC g n ao l.length cap v aa na ca)) wr) (fun v3 _ => l.length - (intOf v3).toNat)
      case atStart => exact ⟨0, by omega, rfl, Lib.hid rfl, hb3⟩
      case round =>
        obtain ⟨k, hk, rfl, hix, hb⟩ := hrel
        have hW := hb.size
        rw [World.size_alloc] at hW
        obtain ⟨x0, x1, x2, x3, x4⟩ := boxCells hb
        have hB := hA.trans (hb.mono (by omega))
        by_cases hkl : k < l.length
        · obtain ⟨c, hcl⟩ := some_at hkl
          obtain ⟨bb, oo, rfl, hs1, hb4, hok, y0, y1⟩ := par_get (hl.old hB) hcl
          have hk2 : (k : Int) < (l.length : Int) := by omega
          have hlim : k ≤ 100000 := by omega
          have hi2 := hix.out
          rw [any_at2 hcl] at hi2
          have HC := Lib.hid (param_okref c wr)
          unfold encPar at HC
          cases hp : isPar c with
          | false =>
            rw [hp] at HC
            have HR := Lib.hid (show chkP g n l v na = 3 by unfold chkP; rw [if_neg HBN.out, if_neg h6, if_pos (by rw [hi2, hp]; rfl)])
            clear hp hi2
            go_wp2_with fail
            refine HC.out.mono ?_
            rintro e w4 ⟨rfl, hb4⟩
            go_wp2_with fail
            go_ret
            exact ⟨by rw [HR.out]; rfl, chain hB hb4⟩
          | true =>
            rw [hp] at HC
            have HI := Lib.hid (show (l.any fun c => !isPar c) = (l.drop (k + 1)).any fun c => !isPar c by rw [hi2, hp]; rfl)
            clear hp hi2
            go_wp2_with fail
            refine HC.out.mono ?_
            rintro e w4 ⟨rfl, hb4⟩
            go_wp2_with fail
            go_roundw
            case measure => simp [intOf]; omega
            case rel => exact ⟨k + 1, by omega, by go_num, HI, hb.trans (hb4.mono hW)⟩
        · obtain rfl : k = l.length := by omega
          have HP := Lib.hid (show ¬ ((l.any fun c => !isPar c) = true) by rw [hix.out, List.drop_length]; simp)
          clear hix
          by_cases hna : 0 < na
          · have HR := Lib.hid (show chkP g n l v na = 5 by unfold chkP; rw [if_neg HBN.out, if_neg h6, if_neg HP.out, if_pos hna])
            have hnz : (0 : Int) < (na : Int) := by omega
            go_wp2_with fail
            go_ret
            exact ⟨by rw [HR.out]; rfl, hB⟩
          have hnz : ¬ ((0 : Int) < (na : Int)) := by omega
          by_cases hvl : 2400 < v.size
          · have HR := Lib.hid (show chkP g n l v na = 8 by unfold chkP; rw [if_neg HBN.out, if_neg h6, if_neg HP.out, if_neg hna, if_pos hvl])
            have hvz : (2400 : Int) < (v.size : Int) := by omega
            go_wp2_with fail
            go_ret
            exact ⟨by rw [HR.out]; rfl, hB⟩
          have hvz : ¬ ((2400 : Int) < (v.size : Int)) := by omega
          have HR := Lib.hid (show chkP g n l v na = if (v.data.toList.any fun c => oddB c.toNat) = true then 3 else 0 by unfold chkP; rw [if_neg HBN.out, if_neg h6, if_neg HP.out, if_neg hna, if_neg hvl])
          go_wp2_with fail
          clear x0 x1 x2 x3 x4
          go_loopw [4] (fun v4 wr => ∃ k : Nat, k ≤ v.size ∧ v4 = .int .i64 k ∧ Hid ((v.data.toList.any fun c => oddB c.toNat) = (v.data.toList.drop k).any fun c => oddB c.toNat) ∧ Below (w.heap.size + 1) (w.alloc (propC g n ao l.length cap v aa na ca)) wr) (fun v4 _ => v.size - (intOf v4).toNat)
          case atStart => exact ⟨0, by omega, rfl, Lib.hid rfl, hb⟩
          case round =>
            obtain ⟨k, hk, rfl, hix, hb⟩ := hrel
            have hW := hb.size
            rw [World.size_alloc] at hW
            obtain ⟨x0, x1, x2, x3, x4⟩ := boxCells hb
            have hB := hA.trans (hb.mono (by omega))
            by_cases hkl : k < v.size
            · have hk2 : (k : Int) < (v.size : Int) := by omega
              obtain ⟨y, hy⟩ : ∃ y, v[k]'hkl = y := ⟨_, rfl⟩
              have hyn := y.toNat_lt
              have hyl : v.data.toList[k]? = some y := by rw [← hy]; exact Lib.data_getElem? v k hkl
              have hi2 := hix.out
              rw [any_at2 hyl] at hi2
              cases ho : oddB y.toNat with
              | true =>
                have HO := Lib.hid ho
                have HR2 := Lib.hid (show chkP g n l v na = 3 by rw [HR.out, hi2, ho]; rfl)
                clear hi2 hyl ho
                go_wp2_with fail
                refine (odd_any _ hyn _).mono ?_
                rintro e w4 ⟨rfl, rfl⟩
                rw [HO.out]
                go_wp2_with fail
                go_ret
                exact ⟨by rw [HR2.out]; rfl, hB⟩
              | false =>
                have HO := Lib.hid ho
                rw [ho, Bool.false_or] at hi2
                have HI := Lib.hid hi2
                clear hi2 hyl ho
                go_wp2_with fail
                refine (odd_any _ hyn _).mono ?_
                rintro e w4 ⟨rfl, rfl⟩
                rw [HO.out]
                go_wp2_with fail
                go_roundw
                case measure => simp [intOf]; omega
                case rel => exact ⟨k + 1, by omega, by go_num, HI, hb⟩
            · obtain rfl : k = v.size := by omega
              have HR2 := Lib.hid (show chkP g n l v na = 0 by rw [HR.out, hix.out, List.drop_eq_nil_of_le (by simp)]; rfl)
              clear hix
              go_wp2_with fail
              go_ret
              exact ⟨by rw [HR2.out]; rfl, hB⟩
end Go.Proofs.YtcfbmfcobpfcjaaDoor
