/- What is wrong with a property of a card: the program's check. -/
import Derived.Test.YtcfbmfcobpfcjaaDoorVcUp
import Derived.Test.YtcfbmfcobpfcjaaDoorPrChkR
namespace Go.Proofs.YtcfbmfcobpfcjaaDoor
open Go.RowKit Lift
set_option linter.unusedSimpArgs false
set_option linter.unusedVariables false

theorem odds (B : Nat) (W : World) : PredOf okPar encPar 34 [] oddP B W := ⟨fun args w => by kernel_rfl, fun w c hc _ => odd_any2 c hc.2 w⟩
def badKind (n v : ByteArray) (na : Nat) : Bool := (decide (n = kAge) && (!decide (na = 1) || !decide (v.size = 0))) || (!decide (n = kAge) && decide (0 < na))
def chkC (g n : ByteArray) (l : List Par) (v : ByteArray) (na : Nat) : Int :=
  if chkP g n l ⟨#[]⟩ 0 = 0 then
    (if 4 < l.length then 4 else if l.any oddP = true then 3 else if isFramed n = true then 14 else if 600 < v.size then 8 else if badKind n v na = true then 5 else 0)
  else chkP g n l ⟨#[]⟩ 0
set_option maxHeartbeats 4000000 in
set_option maxRecDepth 100000 in
theorem cchk_any (g n v : ByteArray) (aa : Option Addr) (na ca : Nat) (ao : Option Addr) (cap : Nat) (l : List Par) (w : World) (hl : SlAt rPar (· < w.heap.size) w ao l) (hlen : l.length ≤ 100000) :
    Calls Tryd.prog 18 #[propV g n ao l.length cap v aa na ca] w (BelowPost (.int .i64 (chkC g n l v na)) w) := by
  obtain ⟨W1, hW1⟩ : ∃ x, w.alloc (.cells #[.string g, .string n, .slice ao l.length cap, .string v, .slice aa na ca] 42) = x := ⟨_, rfl⟩
  obtain ⟨W3, hW3⟩ : ∃ x, W1.alloc (.cells #[.string g, .string n, .slice ao l.length cap, .string ⟨#[]⟩, .slice none 0 0] 42) = x := ⟨_, rfl⟩
  have hb1 : Below w.heap.size w W1 := by rw [← hW1]; exact (Below.refl _ w).alloc (Nat.le_refl _) _
  have hz1 : W1.heap.size = w.heap.size + 1 := by rw [← hW1]; simp
  have hb3 : Below W1.heap.size W1 W3 := by rw [← hW3]; exact (Below.refl _ W1).alloc (Nat.le_refl _) _
  have c1 : W1.heap[w.heap.size]? = some (.cells #[.string g, .string n, .slice ao l.length cap, .string v, .slice aa na ca] 42 (0, 0)) := by rw [← hW1]; exact heap_alloc_new w _
  have c3 : W3.heap[w.heap.size]? = some (.cells #[.string g, .string n, .slice ao l.length cap, .string v, .slice aa na ca] 42 (0, 0)) := (hb3.block w.heap.size (by omega)).trans c1
  have hB3 : Below w.heap.size w W3 := chain hb1 hb3
  have hz3 : w.heap.size < W3.heap.size := by have := hb3.size; omega
  have HCk := Lib.hid (check_any g n ⟨#[]⟩ none 0 0 ao cap l W3 (hl.old hB3).here hlen (by decide))
  have HW := Lib.hid (show W3 = (w.alloc (.cells #[.string g, .string n, .slice ao l.length cap, .string v, .slice aa na ca] 42)).alloc (.cells #[.string g, .string n, .slice ao l.length cap, .string ⟨#[]⟩, .slice none 0 0] 42) by rw [hW1, hW3])
  have HL := Lib.hid hl
  have HC3 := Lib.hid c3
  have HB3 := Lib.hid hB3
  unfold propV at HCk ⊢
  obtain ⟨E, hE⟩ : ∃ E, chkP g n l ⟨#[]⟩ 0 = E := ⟨_, rfl⟩
  rw [hE] at HCk
  have HR := Lib.hid (show chkC g n l v na = if E = 0 then (if 4 < l.length then 4 else if l.any oddP = true then 3 else if isFramed n = true then 14 else if 600 < v.size then 8 else if badKind n v na = true then 5 else 0) else E by unfold chkC; rw [hE])
  clear hW1 hW3 hb1 hb3 c1 c3 hz1 hE hl hB3
  go_enter Tryd.func18, Tryd.ntmps18
  go_wp2_with fail
  rw [← HW.out]
  clear HW
  refine HCk.out.mono ?_
  rintro e w4 ⟨rfl, hb4⟩
  have c4 := (hb4.block w.heap.size hz3).trans HC3.out
  have hB4 : Below w.heap.size w w4 := chain HB3.out hb4
  have hz4 : w.heap.size < w4.heap.size := by have := hb4.size; omega
  have k0 : ∀ wx, Below w4.heap.size w4 wx → wx.heap[w.heap.size]? = some (.cells #[.string g, .string n, .slice ao l.length cap, .string v, .slice aa na ca] 42 (0, 0)) := fun wx hb => (hb.block w.heap.size hz4).trans c4
  have HK0 := Lib.hid k0
  obtain ⟨k1, k2, k3, k4⟩ : w4.cell? ⟨w.heap.size, 1, none⟩ = some (.string n) ∧ w4.cell? ⟨w.heap.size, 2, none⟩ = some (.slice ao l.length cap) ∧ w4.cell? ⟨w.heap.size, 3, none⟩ = some (.string v) ∧ w4.cell? ⟨w.heap.size, 4, none⟩ = some (.slice aa na ca) :=
    ⟨by rw [Lib.cell_of_heap c4]; rfl, by rw [Lib.cell_of_heap c4]; rfl, by rw [Lib.cell_of_heap c4]; rfl, by rw [Lib.cell_of_heap c4]; rfl⟩
  clear HCk hb4 c4 k0 HC3 HB3
  by_cases h0 : E = 0
  case neg =>
    have h0' : (E == 0) = false := by simpa using h0
    have HR2 := Lib.hid (HR.out.trans (if_neg h0))
    clear h0
    go_wp2_with fail
    go_ret
    exact ⟨by rw [HR2.out]; rfl, hB4⟩
  subst h0
  by_cases h4 : 4 < l.length
  · have h4i : (4 : Int) < (l.length : Int) := by omega
    have HR2 := Lib.hid (HR.out.trans (by rw [if_pos rfl, if_pos h4]))
    clear h4
    go_wp2_with fail
    go_ret
    exact ⟨by rw [HR2.out]; rfl, hB4⟩
  have h4i : ¬ (4 : Int) < (l.length : Int) := by omega
  have HR2 := Lib.hid (HR.out.trans (by rw [if_pos rfl, if_neg h4]))
  have HO := Lib.hid (contains_par0 ao cap l 34 oddP w4 (HL.out.old hB4).here hlen (odds _ _))
  clear h4 HR
  obtain ⟨o, ho⟩ : ∃ o, l.any oddP = o := ⟨_, rfl⟩
  rw [ho] at HO HR2
  clear ho
  go_wp2_with fail
  refine HO.out.mono ?_
  rintro e w5 ⟨rfl, hb5⟩
  have c5 := HK0.out w5 hb5
  have hB5 : Below w.heap.size w w5 := chain hB4 hb5
  clear HO k1 k2 k3 k4
  obtain ⟨k1, k2, k3, k4⟩ : w5.cell? ⟨w.heap.size, 1, none⟩ = some (.string n) ∧ w5.cell? ⟨w.heap.size, 2, none⟩ = some (.slice ao l.length cap) ∧ w5.cell? ⟨w.heap.size, 3, none⟩ = some (.string v) ∧ w5.cell? ⟨w.heap.size, 4, none⟩ = some (.slice aa na ca) :=
    ⟨by rw [Lib.cell_of_heap c5]; rfl, by rw [Lib.cell_of_heap c5]; rfl, by rw [Lib.cell_of_heap c5]; rfl, by rw [Lib.cell_of_heap c5]; rfl⟩
  clear c5 hb5
  cases o with
  | true =>
    go_wp2_with fail
    go_ret
    exact ⟨by rw [HR2.out]; rfl, hB5⟩
  | false =>
  have HF := Lib.hid (framed_any n w5)
  obtain ⟨fr, hfr⟩ : ∃ b, isFramed n = b := ⟨_, rfl⟩
  rw [hfr] at HF HR2
  clear hfr
  go_wp2_with fail
  refine HF.out.mono ?_
  rintro e w6 ⟨rfl, rfl⟩
  cases fr with
  | true =>
    go_wp2_with fail
    go_ret
    exact ⟨by rw [HR2.out]; rfl, hB5⟩
  | false =>
  by_cases h6 : 600 < v.size
  · have h6i : (600 : Int) < (v.size : Int) := by omega
    have HR3 := Lib.hid (HR2.out.trans (show _ = (8 : Int) by rw [if_neg (by decide), if_neg (by decide), if_pos h6]))
    clear h6
    go_wp2_with fail
    go_ret
    exact ⟨by rw [HR3.out]; rfl, hB5⟩
  have h6i : ¬ (600 : Int) < (v.size : Int) := by omega
  have HR3 := Lib.hid (HR2.out.trans (by rw [if_neg (by decide), if_neg (by decide), if_neg h6]))
  clear h6 HR2
  have hKA : badKind n v na = ((decide (n.toList = [65, 71, 69, 78, 84]) && (!decide (na = 1) || !decide (v.toList = []))) || (!decide (n.toList = [65, 71, 69, 78, 84]) && decide (0 < na))) := by
    unfold badKind; rw [show decide (n = kAge) = decide (n.toList = [65, 71, 69, 78, 84]) from eq_list n _, empty_list v]
  rw [hKA] at HR3
  clear hKA
  by_cases ha : n.toList = [65, 71, 69, 78, 84]
  · have ha2 : (n.toList == [65, 71, 69, 78, 84]) = true := by simpa using ha
    have HA := Lib.hid ha
    clear ha
    by_cases h1 : na = 1
    · have h1i : ((na : Int) != 1) = false := by simp [h1]
      have HN1 := Lib.hid h1
      clear h1
      by_cases hv : v.toList = []
      · have hv2 : (v.toList != []) = false := by simpa using hv
        have hv3 : v.toList.isEmpty = true := by simpa using hv
        have HV := Lib.hid hv
        clear hv
        go_wp2_with fail
        go_ret
        exact ⟨by rw [HR3.out]; simp [HA.out, HN1.out, HV.out], hB5⟩
      · have hv2 : (v.toList != []) = true := by simpa using hv
        have hv3 : v.toList.isEmpty = false := by simpa using hv
        have HV := Lib.hid hv
        clear hv
        go_wp2_with fail
        go_ret
        exact ⟨by rw [HR3.out]; simp [HA.out, HN1.out, HV.out], hB5⟩
    · have h1i : ((na : Int) != 1) = true := by simp; omega
      have HN1 := Lib.hid h1
      clear h1
      go_wp2_with fail
      go_ret
      exact ⟨by rw [HR3.out]; simp [HA.out, HN1.out], hB5⟩
  · have ha2 : (n.toList == [65, 71, 69, 78, 84]) = false := by simpa using ha
    have HA := Lib.hid ha
    clear ha
    by_cases h1 : 0 < na
    · have h1i : (0 : Int) < (na : Int) := by omega
      have HN1 := Lib.hid h1
      clear h1
      go_wp2_with fail
      go_ret
      exact ⟨by rw [HR3.out]; simp [HA.out, HN1.out], hB5⟩
    · have h1i : ¬ (0 : Int) < (na : Int) := by omega
      have HN1 := Lib.hid h1
      clear h1
      go_wp2_with fail
      go_ret
      exact ⟨by rw [HR3.out]; simp [HA.out, HN1.out], hB5⟩
end Go.Proofs.YtcfbmfcobpfcjaaDoor
