/- A card as a text: the program's Print and Check, and the document's; the law's guard. -/
import Derived.Test.YtcfbmfcobpfcjaaDoorVcApp
import Derived.Test.YtcfbmfcobpfcjaaDoorVcLin
import Derived.Test.YtcfbmfcobpfcjaaDoorVcDchk
namespace Go.Proofs.YtcfbmfcobpfcjaaDoor
open Go.RowKit Lift Go.Shelf
set_option linter.unusedSimpArgs false
set_option linter.unusedVariables false

def textC (d : Nat) (c : Crd) : ByteArray := ⟨(joinL (linesP d c)).toArray⟩
def printC (d : Nat) (c : Crd) : ByteArray × Int :=
  if 3 < deepN 8 c then (⟨#[]⟩, 9) else if chkN d c = 0 then (if 4000 < (textC d c).size then (⟨#[]⟩, 8) else (textC d c, 0)) else (⟨#[]⟩, chkN d c)
def CPost (x : ByteArray × Int) (w : World) (e : Ending) (w' : World) : Prop := e = .returned (.tuple #[.string x.1, .int .i64 x.2]) ∧ Below w.heap.size w w'
theorem own_low {w w' : World} {v : Value} (hv : v.ownBlock = none) (hk : Kept (fun j => some j = v.ownBlock) w w') (B : Nat) (hB : B ≤ w.heap.size) : Below B w w' := hk.below hB (fun k e => by rw [hv] at e; cases e)
set_option maxHeartbeats 8000000 in
set_option maxRecDepth 100000 in
theorem cprint_any (d m : Nat) (c : Crd) (cs : Array Value) (w : World) (hf : FineC m c) (hT : Lib.Utf8Tabs 0 1 w) (h : (rCrd d).rel (· < w.heap.size) w cs.toList c) :
    Calls Tryd.prog 5 #[.agg cs] w (CPost (printC d c) w) := by
  have hh := h
  obtain ⟨d', ao, cap, rfl, h1, h2, h3, h4, h5⟩ := card_inv h
  obtain rfl : cs = #[.slice ao c.props.length cap] := Array.toList_inj.1 (by rw [h1])
  clear h h1 h2 h3 h4 h5
  obtain ⟨D, hD⟩ : ∃ D, d' + 1 = D := ⟨_, rfl⟩
  rw [hD] at hh ⊢
  obtain ⟨W1, hW1⟩ : ∃ x, w.alloc (.cells #[.slice ao c.props.length cap] 24) = x := ⟨_, rfl⟩
  have hb0 : Below w.heap.size w W1 := by rw [← hW1]; exact (Below.refl _ w).alloc (Nat.le_refl _) _
  have hz1 : w.heap.size < W1.heap.size := by rw [← hW1]; simp
  have c0 : W1.cell? ⟨w.heap.size, 0, none⟩ = some (.slice ao c.props.length cap) := by rw [← hW1]; simp [go_sem]
  have HDp := Lib.hid (Deep_any D c #[.slice ao c.props.length cap] W1 ((rCrd D).mono _ _ _ _ _ (rel_old hh hb0) (fun b hb h2 => h2)))
  have HW1 := Lib.hid hW1
  have HB0 := Lib.hid hb0
  have HC0 := Lib.hid c0
  have HH := Lib.hid hh
  obtain ⟨N, hN⟩ : ∃ N, deepN 8 c = N := ⟨_, rfl⟩
  rw [hN] at HDp
  have HN := Lib.hid hN
  have HPr := Lib.hid (show printC D c = if 3 < N then (⟨#[]⟩, 9) else if chkN D c = 0 then (if 4000 < (textC D c).size then (⟨#[]⟩, 8) else (textC D c, 0)) else (⟨#[]⟩, chkN D c) by unfold printC; rw [hN])
  clear hW1 hb0 c0 hN hh hD
  go_enter Tryd.func5, Tryd.ntmps5
  go_wp2_with fail
  rw [HW1.out]
  clear HW1
  refine HDp.out.mono ?_
  rintro e w2 ⟨rfl, hb2⟩
  have HB2 := Lib.hid (HB0.out.trans (hb2.mono (by omega)))
  have c2 := (hb2.cell (p := ⟨w.heap.size, 0, none⟩) hz1).trans HC0.out
  have hz2 := hb2.size
  clear hb2 HDp
  by_cases h3 : 3 < N
  · have h3z : (3 : Int) < (N : Int) := by omega
    have HR := Lib.hid (HPr.out.trans (if_pos h3))
    clear h3
    go_wp2_with fail
    go_ret2
    exact ⟨by rw [HR.out]; rfl, HB2.out⟩
  have h3z : ¬ (3 : Int) < (N : Int) := by omega
  have HR := Lib.hid (HPr.out.trans (if_neg h3))
  have hsh : Shal 3 c := ⟨8, by omega, by rw [HN.out]; omega⟩
  have HAp := Lib.hid (appl_any D 3 m c #[.slice ao c.props.length cap] w2 w.heap.size (.slice none 0 0) [] hsh (by omega) hf (fun W hW => tabs_below hT (HB2.out.trans hW)) (by omega) (rel_old HH.out HB2.out) (Lift.Own.nil _ _ _ _ _) (by have := bud_mono (Nat.le_refl 3); simp; omega))
  have HSh := Lib.hid hsh
  clear h3 hsh HPr
  go_wp2_with fail
  refine HAp.out.mono ?_
  intro e w3 hpost
  unfold AppPost at hpost
  by_cases hE : chkN D c = 0
  · rw [if_pos hE] at hpost
    obtain ⟨v, rfl, hA⟩ := hpost
    have HR2 := Lib.hid (HR.out.trans (if_pos hE))
    have hbd := linesP_bound D 3 c HSh.out hE
    have hb3 := bud_mono (Nat.le_refl 3)
    have hO := hA.own
    rw [List.nil_append] at hO
    obtain ⟨a3, c3, rfl⟩ := hO.form
    have HJ := Lib.hid (ljoin_any a3 c3 (linesP D c) w3 hO.here (by omega) (by omega))
    have HB3 := Lib.hid (HB2.out.trans (own_low rfl hA.kept w.heap.size (by omega)))
    have hz3 := hA.kept.size
    obtain ⟨ls, hls⟩ : ∃ l, linesP D c = l := ⟨_, rfl⟩
    have HT := Lib.hid (show (⟨(joinL ls).toArray⟩ : ByteArray) = textC D c by unfold textC; rw [hls])
    rw [hls] at HJ ⊢
    clear hA hO hls hbd hb3 HR HAp hE
    go_wp2_with fail
    refine HJ.out.mono ?_
    rintro e w4 ⟨rfl, hb4⟩
    rw [HT.out]
    have HB4 := Lib.hid (HB3.out.trans (hb4.mono (by omega)))
    clear hb4 HJ HT
    obtain ⟨S, hS⟩ : ∃ s, textC D c = s := ⟨_, rfl⟩
    rw [hS] at HR2 ⊢
    clear hS
    by_cases h4 : 4000 < S.size
    · have h4z : (4000 : Int) < (S.size : Int) := by omega
      have HR3 := Lib.hid (HR2.out.trans (if_pos h4))
      clear h4
      go_wp2_with fail
      go_ret2
      exact ⟨by rw [HR3.out]; rfl, HB4.out⟩
    · have h4z : ¬ (4000 : Int) < (S.size : Int) := by omega
      have HR3 := Lib.hid (HR2.out.trans (if_neg h4))
      clear h4
      go_wp2_with fail
      go_ret2
      exact ⟨by rw [HR3.out]; rfl, HB4.out⟩
  · rw [if_neg hE] at hpost
    obtain ⟨rfl, hK⟩ := hpost
    have HR2 := Lib.hid (HR.out.trans (if_neg hE))
    have HB3 := Lib.hid (HB2.out.trans (own_low rfl hK w.heap.size (by omega)))
    obtain ⟨E, hEe⟩ : ∃ x, chkN D c = x := ⟨_, rfl⟩
    rw [hEe] at HR2 hE ⊢
    have hE1 : (E != 0) = true := by simpa using hE
    clear hK hEe HR HAp
    go_wp2_with fail
    go_ret2
    exact ⟨by rw [HR2.out]; rfl, HB3.out⟩
set_option maxHeartbeats 4000000 in
set_option maxRecDepth 100000 in
theorem ccheck_any (d m : Nat) (c : Crd) (cs : Array Value) (w : World) (hf : FineC m c) (hT : Lib.Utf8Tabs 0 1 w) (h : (rCrd d).rel (· < w.heap.size) w cs.toList c) :
    Calls Tryd.prog 7 #[.agg cs] w (BelowPost (.int .i64 (printC d c).2) w) := by
  have hh := h
  obtain ⟨d', ao, cap, rfl, h1, h2, h3, h4, h5⟩ := card_inv h
  obtain rfl : cs = #[.slice ao c.props.length cap] := Array.toList_inj.1 (by rw [h1])
  clear h h1 h2 h3 h4 h5
  have hb0 : Below w.heap.size w (w.alloc (.cells #[.slice ao c.props.length cap] 24)) := (Below.refl _ w).alloc (Nat.le_refl _) _
  have HP := Lib.hid (cprint_any (d' + 1) m c #[.slice ao c.props.length cap] _ hf (tabs_below hT hb0) ((rCrd _).mono _ _ _ _ _ (rel_old hh hb0) (fun b hb h2 => h2)))
  have HB0 := Lib.hid hb0
  obtain ⟨x, hx⟩ : ∃ x, printC (d' + 1) c = x := ⟨_, rfl⟩
  rw [hx] at HP ⊢
  clear hb0 hh hx
  go_enter Tryd.func7, Tryd.ntmps7
  go_wp2_with fail
  refine HP.out.mono ?_
  rintro e w2 ⟨rfl, hb2⟩
  go_wp2_with fail
  go_ret
  exact ⟨rfl, HB0.out.trans (hb2.mono (by simp))⟩
set_option maxHeartbeats 8000000 in
set_option maxRecDepth 100000 in
theorem dcheck_any (d m : Nat) (c : Crd) (cs : Array Value) (w : World) (hf : FineC m c) (h : (rCrd d).rel (· < w.heap.size) w cs.toList c) :
    Calls Tryd.prog 13 #[.agg cs] w (BelowPost (.int .i64 (printC d c).2) w) := by
  have hh := h
  obtain ⟨d', ao, cap, rfl, h1, h2, h3, h4, h5⟩ := card_inv h
  obtain rfl : cs = #[.slice ao c.props.length cap] := Array.toList_inj.1 (by rw [h1])
  clear h h1 h2 h3 h4 h5
  obtain ⟨D, hD⟩ : ∃ D, d' + 1 = D := ⟨_, rfl⟩
  rw [hD] at hh ⊢
  obtain ⟨W1, hW1⟩ : ∃ x, w.alloc (.cells #[.slice ao c.props.length cap] 24) = x := ⟨_, rfl⟩
  have hb0 : Below w.heap.size w W1 := by rw [← hW1]; exact (Below.refl _ w).alloc (Nat.le_refl _) _
  have hz1 : w.heap.size < W1.heap.size := by rw [← hW1]; simp
  have c0 : W1.cell? ⟨w.heap.size, 0, none⟩ = some (.slice ao c.props.length cap) := by rw [← hW1]; simp [go_sem]
  have HDp := Lib.hid (Deep_ref D c #[.slice ao c.props.length cap] W1 ((rCrd D).mono _ _ _ _ _ (rel_old hh hb0) (fun b hb h2 => h2)))
  have HW1 := Lib.hid hW1
  have HB0 := Lib.hid hb0
  have HC0 := Lib.hid c0
  have HH := Lib.hid hh
  obtain ⟨N, hN⟩ : ∃ N, deepN 8 c = N := ⟨_, rfl⟩
  rw [hN] at HDp
  have HN := Lib.hid hN
  have HPr := Lib.hid (show printC D c = if 3 < N then (⟨#[]⟩, 9) else if chkN D c = 0 then (if 4000 < (textC D c).size then (⟨#[]⟩, 8) else (textC D c, 0)) else (⟨#[]⟩, chkN D c) by unfold printC; rw [hN])
  clear hW1 hb0 c0 hN hh hD
  go_enter Tryd.func13, Tryd.ntmps13
  go_wp2_with fail
  rw [HW1.out]
  clear HW1
  refine HDp.out.mono ?_
  rintro e w2 ⟨rfl, hb2⟩
  have HB2 := Lib.hid (HB0.out.trans (hb2.mono (by omega)))
  have c2 := (hb2.cell (p := ⟨w.heap.size, 0, none⟩) hz1).trans HC0.out
  have hz2 := hb2.size
  clear hb2 HDp
  by_cases h3 : 3 < N
  · have h3z : (3 : Int) < (N : Int) := by omega
    have HR := Lib.hid (HPr.out.trans (if_pos h3))
    clear h3
    go_wp2_with fail
    go_ret
    exact ⟨by rw [HR.out]; rfl, HB2.out⟩
  have h3z : ¬ (3 : Int) < (N : Int) := by omega
  have HR := Lib.hid (HPr.out.trans (if_neg h3))
  have hsh : Shal 3 c := ⟨8, by omega, by rw [HN.out]; omega⟩
  have HCk := Lib.hid (dchk_any D m c #[.slice ao c.props.length cap] w2 hf ((rCrd D).mono _ _ _ _ _ (rel_old HH.out HB2.out) (fun b hb h2 => h2)))
  have HSh := Lib.hid hsh
  have C2 := Lib.hid c2
  clear h3 hsh HPr
  go_wp2_with fail
  clear c2
  refine HCk.out.mono ?_
  rintro e w3 ⟨rfl, hb3⟩
  have HB3 := Lib.hid (HB2.out.trans (hb3.mono (by omega)))
  have c3 := (hb3.cell (p := ⟨w.heap.size, 0, none⟩) (by show w.heap.size < w2.heap.size; omega)).trans C2.out
  have hz3 := hb3.size
  clear hb3 HCk C2
  by_cases hE : chkN D c = 0
  · have HR2 := Lib.hid (HR.out.trans (if_pos hE))
    have hbd := linesP_bound D 3 c HSh.out hE
    have hb3 := bud_mono (Nat.le_refl 3)
    have HLi := Lib.hid (dlines_any D 3 m c #[.slice ao c.props.length cap] w3 HSh.out (by omega) hf hE ((rCrd D).mono _ _ _ _ _ (rel_old HH.out HB3.out) (fun b hb h2 => h2)))
    have HJ := Lib.hid (fun (wx : World) (a3 : Option Addr) (c3 : Nat) (hs : SlAt Rd.str (· < wx.heap.size) wx a3 (linesP D c)) => ljoin_ref a3 c3 (linesP D c) wx hs (by omega) (by omega))
    rw [hE]
    obtain ⟨ls, hls⟩ : ∃ l, linesP D c = l := ⟨_, rfl⟩
    have HT := Lib.hid (show (⟨(joinL ls).toArray⟩ : ByteArray) = textC D c by unfold textC; rw [hls])
    rw [hls] at HJ HLi
    clear hls hbd hb3 HR hE
    go_wp2_with fail
    refine HLi.out.mono ?_
    rintro e w4 ⟨a4, c4, rfl, hO4, hb4⟩
    have HJ4 := Lib.hid (HJ.out w4 a4 c4 hO4.here)
    have HB4 := Lib.hid (HB3.out.trans (hb4.mono (by omega)))
    have hz4 := hb4.size
    clear hO4 hb4 HLi HJ c3
    go_wp2_with fail
    refine HJ4.out.mono ?_
    rintro e w5 ⟨rfl, hb5⟩
    rw [HT.out]
    have HB5 := Lib.hid (HB4.out.trans (hb5.mono (by omega)))
    clear hb5 HJ4 HT
    obtain ⟨S, hS⟩ : ∃ s, textC D c = s := ⟨_, rfl⟩
    rw [hS] at HR2 ⊢
    clear hS
    by_cases h4 : 4000 < S.size
    · have h4z : (4000 : Int) < (S.size : Int) := by omega
      have HR3 := Lib.hid (HR2.out.trans (if_pos h4))
      clear h4
      go_wp2_with fail
      go_ret
      exact ⟨by rw [HR3.out]; rfl, HB5.out⟩
    · have h4z : ¬ (4000 : Int) < (S.size : Int) := by omega
      have HR3 := Lib.hid (HR2.out.trans (if_neg h4))
      clear h4
      go_wp2_with fail
      go_ret
      exact ⟨by rw [HR3.out]; rfl, HB5.out⟩
  · have HR2 := Lib.hid (HR.out.trans (if_neg hE))
    obtain ⟨E, hEe⟩ : ∃ x, chkN D c = x := ⟨_, rfl⟩
    rw [hEe] at HR2 hE ⊢
    have hE1 : (E == 0) = false := by simpa using hE
    clear hEe HR
    go_wp2_with fail
    go_ret
    exact ⟨by rw [HR2.out]; rfl, HB3.out⟩
set_option maxHeartbeats 8000000 in
set_option maxRecDepth 100000 in
theorem dprint_any (d m : Nat) (c : Crd) (cs : Array Value) (w : World) (hf : FineC m c) (h : (rCrd d).rel (· < w.heap.size) w cs.toList c) :
    Calls Tryd.prog 6 #[.agg cs] w (CPost (printC d c) w) := by
  have hh := h
  obtain ⟨d', ao, cap, rfl, h1, h2, h3, h4, h5⟩ := card_inv h
  obtain rfl : cs = #[.slice ao c.props.length cap] := Array.toList_inj.1 (by rw [h1])
  clear h h1 h2 h3 h4 h5
  obtain ⟨D, hD⟩ : ∃ D, d' + 1 = D := ⟨_, rfl⟩
  rw [hD] at hh ⊢
  obtain ⟨W1, hW1⟩ : ∃ x, w.alloc (.cells #[.slice ao c.props.length cap] 24) = x := ⟨_, rfl⟩
  have hb0 : Below w.heap.size w W1 := by rw [← hW1]; exact (Below.refl _ w).alloc (Nat.le_refl _) _
  have hz1 : w.heap.size < W1.heap.size := by rw [← hW1]; simp
  have c0 : W1.cell? ⟨w.heap.size, 0, none⟩ = some (.slice ao c.props.length cap) := by rw [← hW1]; simp [go_sem]
  have HDp := Lib.hid (dcheck_any D m c #[.slice ao c.props.length cap] W1 hf ((rCrd D).mono _ _ _ _ _ (rel_old hh hb0) (fun b hb h2 => h2)))
  have HW1 := Lib.hid hW1
  have HB0 := Lib.hid hb0
  have HC0 := Lib.hid c0
  have HH := Lib.hid hh
  obtain ⟨E, hE⟩ : ∃ x, (printC D c).2 = x := ⟨_, rfl⟩
  rw [hE] at HDp
  have HE := Lib.hid hE
  clear hW1 hb0 c0 hE hh hD
  go_enter Tryd.func6, Tryd.ntmps6
  go_wp2_with fail
  rw [HW1.out]
  clear HW1
  refine HDp.out.mono ?_
  rintro e w2 ⟨rfl, hb2⟩
  have HB2 := Lib.hid (HB0.out.trans (hb2.mono (by omega)))
  have c2 := (hb2.cell (p := ⟨w.heap.size, 0, none⟩) hz1).trans HC0.out
  have hz2 := hb2.size
  clear hb2 HDp
  by_cases h0 : E = 0
  · subst h0
    have hall : ¬ 3 < deepN 8 c ∧ chkN D c = 0 ∧ printC D c = (textC D c, 0) := by
      have h1 := HE.out
      unfold printC at h1 ⊢
      by_cases q1 : 3 < deepN 8 c
      · rw [if_pos q1] at h1; cases h1
      · rw [if_neg q1] at h1 ⊢
        by_cases q2 : chkN D c = 0
        · rw [if_pos q2] at h1 ⊢
          by_cases q3 : 4000 < (textC D c).size
          · rw [if_pos q3] at h1; cases h1
          · rw [if_neg q3]; exact ⟨q1, q2, rfl⟩
        · rw [if_neg q2] at h1; exact absurd h1 q2
    obtain ⟨q1, q2, q3⟩ := hall
    have hsh : Shal 3 c := ⟨8, by omega, by omega⟩
    have hbd := linesP_bound D 3 c hsh q2
    have hb3 := bud_mono (Nat.le_refl 3)
    have HLi := Lib.hid (dlines_any D 3 m c #[.slice ao c.props.length cap] w2 hsh (by omega) hf q2 ((rCrd D).mono _ _ _ _ _ (rel_old HH.out HB2.out) (fun b hb h2 => h2)))
    have HJ := Lib.hid (fun (wx : World) (a3 : Option Addr) (c3 : Nat) (hs : SlAt Rd.str (· < wx.heap.size) wx a3 (linesP D c)) => ljoin_ref a3 c3 (linesP D c) wx hs (by omega) (by omega))
    have HR := Lib.hid q3
    obtain ⟨ls, hls⟩ : ∃ l, linesP D c = l := ⟨_, rfl⟩
    have HT := Lib.hid (show (⟨(joinL ls).toArray⟩ : ByteArray) = textC D c by unfold textC; rw [hls])
    rw [hls] at HJ HLi
    clear hls hbd hb3 q1 q2 q3 hsh
    go_wp2_with fail
    refine HLi.out.mono ?_
    rintro e w4 ⟨a4, c4, rfl, hO4, hb4⟩
    have HJ4 := Lib.hid (HJ.out w4 a4 c4 hO4.here)
    have HB4 := Lib.hid (HB2.out.trans (hb4.mono (by omega)))
    have hz4 := hb4.size
    clear hO4 hb4 HLi HJ c2
    go_wp2_with fail
    refine HJ4.out.mono ?_
    rintro e w5 ⟨rfl, hb5⟩
    rw [HT.out]
    have HB5 := Lib.hid (HB4.out.trans (hb5.mono (by omega)))
    clear hb5 HJ4 HT
    go_wp2_with fail
    go_ret2
    exact ⟨by rw [HR.out]; rfl, HB5.out⟩
  · have hE1 : (E != 0) = true := by simpa using h0
    have HR := Lib.hid (show printC D c = (⟨#[]⟩, E) by
      have h1 := HE.out
      unfold printC at h1 ⊢
      by_cases q1 : 3 < deepN 8 c
      · rw [if_pos q1] at h1 ⊢; rw [← h1]
      · rw [if_neg q1] at h1 ⊢
        by_cases q2 : chkN D c = 0
        · rw [if_pos q2] at h1 ⊢
          by_cases q3 : 4000 < (textC D c).size
          · rw [if_pos q3] at h1 ⊢; rw [← h1]
          · rw [if_neg q3] at h1; exact absurd h1.symm h0
        · rw [if_neg q2] at h1 ⊢; rw [← h1])
    clear h0
    go_wp2_with fail
    go_ret2
    exact ⟨by rw [HR.out]; rfl, HB2.out⟩
set_option maxHeartbeats 4000000 in
set_option maxRecDepth 100000 in
/-- The law's guard. -/
theorem great_card (d : Nat) (c : Crd) (cs : Array Value) (w : World) (h : (rCrd d).rel (· < w.heap.size) w cs.toList c) :
    Calls Tryd.prog 4 #[.agg cs] w (fun e w' => ∃ b, e = .returned (.bool b) ∧ (b = false → FineC 12 c) ∧ Below w.heap.size w w') := by
  have hh := h
  obtain ⟨d', ao, cap, rfl, h1, h2, h3, h4, h5⟩ := card_inv h
  obtain rfl : cs = #[.slice ao c.props.length cap] := Array.toList_inj.1 (by rw [h1])
  clear h h1 h2 h3 h4 h5
  have hb0 : Below w.heap.size w (w.alloc (.cells #[.slice ao c.props.length cap] 24)) := (Below.refl _ w).alloc (Nat.le_refl _) _
  have HP := Lib.hid (weigh_any 12 (by omega) (d' + 1) c #[.slice ao c.props.length cap] 6000 _ (by omega) (by omega) ((rCrd _).mono _ _ _ _ _ (rel_old hh hb0) (fun b hb h2 => h2)))
  have HB0 := Lib.hid hb0
  clear hb0 hh
  go_enter Tryd.func4, Tryd.ntmps4
  go_wp2_with fail
  refine HP.out.mono ?_
  rintro e w2 ⟨r, b, rfl, hf, q1, q2, hb2⟩
  go_wp2_with fail
  go_ret
  exact ⟨b, rfl, hf, HB0.out.trans (hb2.mono (by simp))⟩
end Go.Proofs.YtcfbmfcobpfcjaaDoor
