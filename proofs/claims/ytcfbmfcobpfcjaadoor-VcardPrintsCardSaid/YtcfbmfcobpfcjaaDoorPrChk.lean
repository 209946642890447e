/- What is wrong with a property: the program's Check and the document's. -/
import Derived.Test.YtcfbmfcobpfcjaaDoorPrName2
import Derived.Test.YtcfbmfcobpfcjaaDoorPr3
namespace Go.Proofs.YtcfbmfcobpfcjaaDoor
open Go.ChangeShapes Go.WideShapes Go.ChangeAt Go.RowKit Lift
open Go.ChangeMaps (open_string shut_string)
set_option linter.unusedSimpArgs false
set_option linter.unusedVariables false


set_option maxHeartbeats 1000000 in
set_option maxRecDepth 100000 in
theorem contains_par0 (ao : Option Addr) (cap : Nat) (l : List Par) (g : FuncId) (p : Par → Bool) (w : World) (hl : SlAt rPar (· < w.heap.size) w ao l) (hlen : l.length ≤ 100000) (hp : PredOf okPar encPar g [] p w.heap.size w) :
    Calls Tryd.prog 33 #[.slice ao l.length cap, .func (.func g) #[] #[]] w (BelowPost (.bool (l.any p)) w) := by
  have HC := Lib.hid (index_par0 ao cap l g  p w hl hlen hp)
  have HI := Lib.hid (idx_any p l 0)
  clear hp hl
  go_enter Tryd.func33, Tryd.ntmps33
  go_wp2_with fail
  refine HC.out.mono ?_
  rintro e w3 ⟨rfl, hb3⟩
  go_wp2_with fail
  go_ret
  exact ⟨ret_bool (by simpa using HI.out), hb3⟩


theorem rPar_at : rPar.at Tryd.prog 58 := Rd.at_struct Tryd.underlying58 (by kernel_rfl) (Rd.atF_cons (Rd.at_str Tryd.underlying9 (by kernel_rfl)) rfl (Rd.atF_one (Rd.at_str Tryd.underlying9 (by kernel_rfl)) rfl))
theorem rPars_at : rPar.slice.at Tryd.prog 39 := Rd.at_slice Tryd.underlying39 (by kernel_rfl) rPar_at (by decide)
abbrev rProp : Rd (ByteArray × ByteArray × List Par × ByteArray × Nat) := Rd.str.pair (Rd.str.pair (rPar.slice.pair (Rd.str.pair Rd.hdr)))
theorem at_42 : rProp.at Tryd.prog 42 :=
  Rd.at_struct Tryd.underlying42 (by kernel_rfl) (Rd.atF_cons (Rd.at_str Tryd.underlying9 (by kernel_rfl)) rfl (Rd.atF_cons (Rd.at_str Tryd.underlying9 (by kernel_rfl)) rfl
    (Rd.atF_cons rPars_at rfl (Rd.atF_cons (Rd.at_str Tryd.underlying9 (by kernel_rfl)) rfl (Rd.atF_one (Rd.at_hdr Tryd.underlying40 (by kernel_rfl)) rfl)))))

/-- A property that came in. -/
theorem prop_arg {w : World} {cs : Array Value} {p : ByteArray × ByteArray × List Par × ByteArray × Nat} (h : rProp.rel (· < w.heap.size) w cs.toList p) :
    ∃ g n l v ao cap aa na ca, Value.agg cs = propV g n ao l.length cap v aa na ca ∧ SlArg rPar w ao cap l ∧ g.size ≤ maxTx ∧ n.size ≤ maxTx ∧ v.size ≤ maxTx := by
  obtain ⟨c1, d1, h1, ⟨rfl, hg⟩, c2, d2, rfl, ⟨rfl, hn⟩, c3, d3, rfl, ⟨ao, cap, rfl, h2, h3, h4, h5⟩, c4, d4, rfl, ⟨rfl, h6⟩, ⟨aa, ca, rfl⟩⟩ := h
  refine ⟨p.1, p.2.1, p.2.2.1, p.2.2.2.1, ao, cap, aa, p.2.2.2.2, ca, ?_, ⟨h2, h3, h4, h5⟩, hg, hn, h6⟩
  have : cs = #[.string p.1, .string p.2.1, .slice ao p.2.2.1.length cap, .string p.2.2.2.1, .slice aa p.2.2.2.2 ca] := Array.toList_inj.1 (by rw [h1]; rfl)
  rw [this]; rfl

theorem boxCells {g n v : ByteArray} {ao : Option Addr} {len cap : Nat} {aa : Option Addr} {na ca : Nat} {w w' : World} (h : Below (w.heap.size + 1) (w.alloc (propC g n ao len cap v aa na ca)) w') :
    w'.cell? ⟨w.heap.size, 0, none⟩ = some (.string g) ∧ w'.cell? ⟨w.heap.size, 1, none⟩ = some (.string n) ∧ w'.cell? ⟨w.heap.size, 2, none⟩ = some (.slice ao len cap) ∧ w'.cell? ⟨w.heap.size, 3, none⟩ = some (.string v) ∧ w'.cell? ⟨w.heap.size, 4, none⟩ = some (.slice aa na ca) := by
  obtain ⟨hc, _⟩ := bcell h
  refine ⟨?_, ?_, ?_, ?_, ?_⟩
  all_goals (rw [hc _ _ (by omega)]; simp [go_sem])

def badNames (g n : ByteArray) : Bool := (!decide (g.size = 0) && !isName g) || !isName n
def chkP (g n : ByteArray) (l : List Par) (v : ByteArray) (na : Nat) : Int :=
  if badNames g n = true then 14 else if 6 < l.length then 4 else if (l.any fun c => !isPar c) = true then 3 else if 0 < na then 5 else if 2400 < v.size then 8 else if (v.data.toList.any fun c => oddB c.toNat) = true then 3 else 0

theorem odd_any3 (v : ByteArray) : Lib.containsAny v.data.toList [0, 10, 13] = v.data.toList.any (fun c => oddB c.toNat) := by
  unfold Lib.containsAny
  induction v.data.toList with
  | nil => rfl
  | cons a t ih =>
    have hge := Lib.indexAny_ge [0, 10, 13] t
    have ha : ([0, 10, 13] : List UInt8).contains a = oddB a.toNat := by
      unfold oddB
      rw [Bool.eq_iff_iff, decide_eq_true_eq]
      have h : ∀ k : UInt8, (a = k ↔ a.toNat = k.toNat) := fun k => UInt8.toNat_inj.symm
      simp only [List.contains_cons, List.contains_nil, Bool.or_eq_true, beq_iff_eq, Bool.or_false]
      exact or_congr (h 0) (or_congr (h 10) (h 13))
    rw [List.any_cons, ← ih, Lib.indexAny, ha]
    cases oddB a.toNat with
    | true => rfl
    | false =>
      simp only [Bool.false_eq_true, if_false, Bool.false_or]
      by_cases hm : Lib.indexAny t [0, 10, 13] = -1
      · rw [hm]; rfl
      · rw [if_neg (by simpa using hm)]
        exact decide_eq_decide.2 (by omega)

theorem wrongs (B : Nat) (W : World) : PredOf okPar encPar 55 [] (fun c => !isPar c) B W := ⟨fun args w => by kernel_rfl, fun w c _ _ => wrong_any c w⟩

set_option maxHeartbeats 8000000 in
set_option maxRecDepth 100000 in
theorem check_any (g n v : ByteArray) (aa : Option Addr) (na ca : Nat) (ao : Option Addr) (cap : Nat) (l : List Par) (w : World) (hl : SlAt rPar (· < w.heap.size) w ao l) (hlen : l.length ≤ 100000) (hv : v.size ≤ 100000) :
    Calls Tryd.prog 32 #[propV g n ao l.length cap v aa na ca] w (BelowPost (.int .i64 (chkP g n l v na)) w) := by
  unfold propV
  have he := empty_iff g
  have hA : Below w.heap.size w (w.alloc (propC g n ao l.length cap v aa na ca)) := (Below.refl _ _).alloc (Nat.le_refl _) _
  by_cases hg : decide (g.size = 0) = false ∧ isName g = false
  · have HR := Lib.hid (show chkP g n l v na = 14 by unfold chkP badNames; rw [hg.1, hg.2]; rfl)
    have HN := Lib.hid hg.2
    rw [hg.1] at he
    clear hg
    go_enter Tryd.func32, Tryd.ntmps32
    go_wp2_with fail
    refine (name_any _ _).mono ?_
    rintro e w3 ⟨rfl, hb3⟩
    rw [HN.out]
    go_wp2_with fail
    go_ret
    exact ⟨by rw [HR.out]; rfl, chain hA hb3⟩
  have hg2 : decide (g.size = 0) = true ∨ (decide (g.size = 0) = false ∧ isName g = true) := by
    cases h1 : decide (g.size = 0)
    · cases h2 : isName g
      · exact absurd ⟨h1, h2⟩ hg
      · exact .inr ⟨rfl, rfl⟩
    · exact .inl rfl
  have hGG : (!decide (g.size = 0) && !isName g) = false := by
    rcases hg2 with h | ⟨h, h2⟩
    · rw [h]; rfl
    · rw [h, h2]; rfl
  have HG := Lib.hid hGG
  clear hGG
  clear hg
  rcases hg2 with h0 | ⟨h0, h1⟩
  case' inl =>
    rw [h0] at he
    clear h0
    go_enter Tryd.func32, Tryd.ntmps32
    go_wp2_with fail
    refine (name_any n _).mono ?_
    rintro e w3 ⟨rfl, hb3⟩
    rw [World.size_alloc] at hb3
  case' inr =>
    rw [h0] at he
    have HN := Lib.hid h1
    clear h0 h1
    go_enter Tryd.func32, Tryd.ntmps32
    go_wp2_with fail
    refine (name_any g _).mono ?_
    rintro e w2 ⟨rfl, hb2⟩
    rw [HN.out]
    rw [World.size_alloc] at hb2
    have hW2 := hb2.size
    rw [World.size_alloc] at hW2
    obtain ⟨x0, x1, x2, x3, x4⟩ := boxCells hb2
    go_wp2_with fail
    clear x0 x1 x2 x3 x4
    refine (name_any n _).mono ?_
    rintro e w3 ⟨rfl, hb3⟩
    replace hb3 := hb2.trans (hb3.mono hW2)
    clear hb2 hW2
  all_goals
    have hW3 := hb3.size
    rw [World.size_alloc] at hW3
    have hB3 := hA.trans (hb3.mono (by omega))
    obtain ⟨x0, x1, x2, x3, x4⟩ := boxCells hb3
    cases hn : isName n with
    | false =>
      have HR := Lib.hid (show chkP g n l v na = 14 by unfold chkP badNames; rw [HG.out, hn]; rfl)
      clear hn
      go_wp2_with fail
      go_ret
      exact ⟨by rw [HR.out]; rfl, hB3⟩
    | true =>
      have HBN := Lib.hid (show ¬ (badNames g n = true) by unfold badNames; rw [HG.out, hn]; simp)
      clear hn
      by_cases h6 : 6 < l.length
      · have HR := Lib.hid (show chkP g n l v na = 4 by unfold chkP; rw [if_neg HBN.out, if_pos h6])
        have h6z : (6 : Int) < (l.length : Int) := by omega
        go_wp2_with fail
        go_ret
        exact ⟨by rw [HR.out]; rfl, hB3⟩
      have h6z : ¬ ((6 : Int) < (l.length : Int)) := by omega
      go_wp2_with fail
      refine (contains_par0 ao cap l 55 (fun c => !isPar c) w3 (hl.old hB3).here hlen (wrongs _ _)).mono ?_
      rintro e w4 ⟨rfl, hb4⟩
      have hB4 := chain hB3 hb4
      replace hb4 := hb3.trans (hb4.mono hW3)
      have hW4 := hb4.size
      rw [World.size_alloc] at hW4
      clear x0 x1 x2 x3 x4
      obtain ⟨x0, x1, x2, x3, x4⟩ := boxCells hb4
      cases hp : (l.any fun c => !isPar c) with
      | true =>
        have HR := Lib.hid (show chkP g n l v na = 3 by unfold chkP; rw [if_neg HBN.out, if_neg h6, if_pos hp])
        clear hp
        go_wp2_with fail
        go_ret
        exact ⟨by rw [HR.out]; rfl, hB4⟩
      | false =>
        have HP := Lib.hid (show ¬ ((l.any fun c => !isPar c) = true) by rw [hp]; simp)
        clear hp
        by_cases hna : 0 < na
        · have HR := Lib.hid (show chkP g n l v na = 5 by unfold chkP; rw [if_neg HBN.out, if_neg h6, if_neg HP.out, if_pos hna])
          have hnz : (0 : Int) < (na : Int) := by omega
          go_wp2_with fail
          go_ret
          exact ⟨by rw [HR.out]; rfl, hB4⟩
        have hnz : ¬ ((0 : Int) < (na : Int)) := by omega
        by_cases hvl : 2400 < v.size
        · have HR := Lib.hid (show chkP g n l v na = 8 by unfold chkP; rw [if_neg HBN.out, if_neg h6, if_neg HP.out, if_neg hna, if_pos hvl])
          have hvz : (2400 : Int) < (v.size : Int) := by omega
          go_wp2_with fail
          go_ret
          exact ⟨by rw [HR.out]; rfl, hB4⟩
        have hvz : ¬ ((2400 : Int) < (v.size : Int)) := by omega
        have HR := Lib.hid (show chkP g n l v na = if (v.data.toList.any fun c => oddB c.toNat) = true then 3 else 0 by unfold chkP; rw [if_neg HBN.out, if_neg h6, if_neg HP.out, if_neg hna, if_neg hvl])
        go_wp2_with fail
        refine (containsAny_any v ⟨#[0, 10, 13]⟩ w4 (by decide) (by decide) (by omega) (by intro b hb; simp at hb; rcases hb with rfl | rfl | rfl <;> decide)).mono ?_
        rintro e w5 ⟨rfl, hb5⟩
        have hB5 := chain hB4 hb5
        have hodd := odd_any3 v
        rw [show Lib.containsAny v.data.toList (ByteArray.mk #[0, 10, 13]).data.toList = v.data.toList.any (fun c => oddB c.toNat) from hodd]
        clear hodd
        generalize (v.data.toList.any fun c => oddB c.toNat) = ob at HR
        cases ob
        · go_wp2_with fail
          go_ret
          exact ⟨by rw [HR.out]; rfl, hB5⟩
        · go_wp2_with fail
          go_ret
          exact ⟨by rw [HR.out]; rfl, hB5⟩
end Go.Proofs.YtcfbmfcobpfcjaaDoor
