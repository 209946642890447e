/- A property as a line: the program's Print. -/
import Derived.Test.YtcfbmfcobpfcjaaDoorPrChkR
import Derived.Test.YtcfbmfcobpfcjaaDoorBuilder
import Derived.Test.YtcfbmfcobpfcjaaDoorBKg
namespace Go.Proofs.YtcfbmfcobpfcjaaDoor
open Go.RowKit Lift
set_option linter.unusedSimpArgs false
set_option linter.unusedVariables false

/-- A parameter's copy is laid. -/
theorem BK.copy {base b : Nat} {w0 w : World} {l : List UInt8} (h : BK base b [] w0 l w) (c : Par) :
    BK base b [(w.heap.size, 0, .string c.1), (w.heap.size, 1, .string c.2)] w0 l (w.alloc (.cells #[.string c.1, .string c.2] 58)) := by
  have hlt := h.lt
  obtain ⟨hbb, ⟨x, hB, hx⟩, hb, hsz, hp⟩ := h
  have hA : Below w.heap.size w (w.alloc (.cells #[.string c.1, .string c.2] 58)) := (Below.refl _ _).alloc (Nat.le_refl _) _
  have hxl := hB.lt.2
  refine ⟨hbb, ⟨x, hB.below hA, fun j hj => ⟨(hx j hj).1, fun q hq => ?_⟩⟩, hb.trans (hA.mono hsz), by simp; omega, fun q hq => ?_⟩
  · have := hxl j hj
    simp only [List.mem_cons, List.not_mem_nil, or_false] at hq
    rcases hq with rfl | rfl <;> (show w.heap.size ≠ j; omega)
  · simp only [List.mem_cons, List.not_mem_nil, or_false] at hq
    rcases hq with rfl | rfl
    · exact ⟨by show w.heap.size ≠ b; omega, by simp, by simp [go_sem]⟩
    · exact ⟨by show w.heap.size ≠ b; omega, by simp, by simp [go_sem]⟩
theorem BK.cells {base b p : Nat} {w0 w : World} {l : List UInt8} {c : Par} (h : BK base b [(p, 0, .string c.1), (p, 1, .string c.2)] w0 l w) : w.cell? ⟨p, 0, none⟩ = some (.string c.1) ∧ w.cell? ⟨p, 1, none⟩ = some (.string c.2) ∧ p < w.heap.size := by
  obtain ⟨_, _, _, _, hp⟩ := h
  have h1 := hp _ (List.mem_cons_self ..)
  have h2 := hp _ (List.mem_cons_of_mem _ (List.mem_cons_self ..))
  exact ⟨h1.2.2, h2.2.2, h1.2.1⟩

def preL (g : ByteArray) : List UInt8 := if g.size = 0 then [] else g.data.toList ++ [46]
def parL (c : Par) : List UInt8 := 59 :: ((if c.1.size = 0 then [] else c.1.data.toList ++ [61]) ++ c.2.data.toList)
def lineL (g n : ByteArray) (l : List Par) (v : ByteArray) : List UInt8 := preL g ++ n.data.toList ++ l.flatMap parL ++ [58] ++ v.data.toList
def printP (g n : ByteArray) (l : List Par) (v : ByteArray) (na : Nat) : List UInt8 × Int := if chkP g n l v na = 0 then (lineL g n l v, 0) else ([], chkP g n l v na)
def PrintPost (x : List UInt8 × Int) (w : World) (e : Ending) (w' : World) : Prop := e = .returned (.tuple #[.string ⟨x.1.toArray⟩, .int .i64 x.2]) ∧ Below w.heap.size w w'

theorem fits_le {s : ByteArray} (h : fits s = true) : 0 < s.size ∧ s.size ≤ 32 := of_decide_eq_true h
theorem isName_fits {s : ByteArray} (h : isName s = true) : fits s = true := by
  unfold isName at h; rw [Bool.and_eq_true, Bool.and_eq_true] at h; exact h.1.1
theorem isValue_fits {s : ByteArray} (h : isValue s = true) : fits s = true := by
  unfold isValue at h; rw [Bool.and_eq_true] at h; exact h.1
theorem isPar_fits {c : Par} (h : isPar c = true) : c.1.size ≤ 32 ∧ 0 < c.2.size ∧ c.2.size ≤ 32 := by
  unfold isPar at h
  rw [Bool.and_eq_true, Bool.or_eq_true, decide_eq_true_eq] at h
  have h2 := fits_le (isValue_fits h.2)
  refine ⟨?_, h2⟩
  rcases h.1 with h | h
  · omega
  · exact (fits_le (isName_fits h)).2
/-- What a right property is. -/
theorem chk_ok {g n : ByteArray} {l : List Par} {v : ByteArray} {na : Nat} (h : chkP g n l v na = 0) : (g.size = 0 ∨ isName g = true) ∧ isName n = true ∧ l.length ≤ 6 ∧ (∀ c ∈ l, isPar c = true) ∧ na = 0 ∧ v.size ≤ 2400 ∧ ∀ b ∈ v.data.toList, oddB b.toNat = false := by
  unfold chkP at h
  split at h
  · cases h
  rename_i h1
  split at h
  · cases h
  rename_i h2
  split at h
  · cases h
  rename_i h3
  split at h
  · cases h
  rename_i h4
  split at h
  · cases h
  rename_i h5
  split at h
  · cases h
  rename_i h6
  unfold badNames at h1
  rw [Bool.or_eq_true, Bool.and_eq_true, Bool.not_eq_true', Bool.not_eq_true', Bool.not_eq_true', decide_eq_false_iff_not] at h1
  refine ⟨?_, ?_, by omega, fun c hc => ?_, by omega, by omega, fun b hb => ?_⟩
  · by_cases hg : g.size = 0
    · exact .inl hg
    · right
      cases hq : isName g
      · exact absurd (.inl ⟨hg, hq⟩) h1
      · rfl
  · cases hq : isName n
    · exact absurd (.inr hq) h1
    · rfl
  · cases hq : isPar c
    · exact absurd (List.any_eq_true.2 ⟨c, hc, by rw [hq]; rfl⟩) h3
    · rfl
  · cases hq : oddB b.toNat
    · rfl
    · exact absurd (List.any_eq_true.2 ⟨b, hb, hq⟩) h6
theorem parL_len {c : Par} (h : isPar c = true) : (parL c).length ≤ 66 := by
  have := isPar_fits h
  have h1 : c.1.data.toList.length = c.1.size := by simp
  have h2 : c.2.data.toList.length = c.2.size := by simp
  unfold parL
  split
  · simp only [List.length_cons, List.length_append, List.length_nil]; omega
  · simp only [List.length_cons, List.length_append, List.length_nil]; omega
theorem preL_len {g : ByteArray} (h : g.size ≤ 32) : (preL g).length ≤ 33 := by
  have h1 : g.data.toList.length = g.size := by simp
  unfold preL
  split
  · simp
  · rw [List.length_append, h1]; simp; omega

set_option maxHeartbeats 8000000 in
set_option maxRecDepth 100000 in
theorem print_any (g n v : ByteArray) (aa : Option Addr) (na ca : Nat) (ao : Option Addr) (cap : Nat) (l : List Par) (w : World) (hl : SlAt rPar (· < w.heap.size) w ao l) (hlen : l.length ≤ 100000) (hv : v.size ≤ 100000) :
    Calls Tryd.prog 19 #[propV g n ao l.length cap v aa na ca] w (PrintPost (printP g n l v na) w) := by
  have hA : Below w.heap.size w (w.alloc (propC g n ao l.length cap v aa na ca)) := (Below.refl _ _).alloc (Nat.le_refl _) _
  have HC := Lib.hid (check_any g n v aa na ca ao cap l _ (hl.old hA).here hlen hv)
  unfold propV at *
  by_cases h0 : chkP g n l v na = 0
  · have HR := Lib.hid (show printP g n l v na = (lineL g n l v, 0) by unfold printP; rw [if_pos h0])
    have HO := Lib.hid (chk_ok h0)
    rw [h0] at HC
    clear h0
    have he := empty_iff g
    obtain ⟨hg32, hn32⟩ : g.size ≤ 32 ∧ n.size ≤ 32 := by
      obtain ⟨h1, h2, _⟩ := HO.out
      exact ⟨by rcases h1 with h | h; omega; exact (fits_le (isName_fits h)).2, (fits_le (isName_fits h2)).2⟩
    have hl6 := HO.out.2.2.1
    have hv24 := HO.out.2.2.2.2.2.1
    have hpl := preL_len hg32
    have hnl : n.data.toList.length = n.size := by simp
    rcases (show g.size = 0 ∨ g.size ≠ 0 by omega) with h0 | h0
    case' inl =>
      rw [decide_eq_true h0] at he
      go_enter Tryd.func19, Tryd.ntmps19
      go_wp2_with fail
      refine HC.out.mono ?_
      rintro e w1 ⟨rfl, hb1⟩
      rw [World.size_alloc] at hb1
      have hW1 := hb1.size
      rw [World.size_alloc] at hW1
      have hlt1 : w.heap.size < w1.heap.size := by omega
      obtain ⟨x0, x1, x2, x3, x4⟩ := boxCells hb1
      go_wp2_with fail
      clear x0 x1 x2 x3 x4
      have hk : BK w1.heap.size w1.heap.size [] w1 (preL g) (w1.alloc (.cells #[.pointer none, .slice none 0 0] 50)) := by
        have := BK.fresh w1
        unfold preL
        rw [if_pos h0]
        exact this
      generalize w1.alloc (.cells #[.pointer none, .slice none 0 0] 50) = w2 at hk ⊢
    case' inr =>
      rw [decide_eq_false h0] at he
      go_enter Tryd.func19, Tryd.ntmps19
      go_wp2_with fail
      refine HC.out.mono ?_
      rintro e w1 ⟨rfl, hb1⟩
      rw [World.size_alloc] at hb1
      have hW1 := hb1.size
      rw [World.size_alloc] at hW1
      have hlt1 : w.heap.size < w1.heap.size := by omega
      obtain ⟨x0, x1, x2, x3, x4⟩ := boxCells hb1
      go_wp2_with fail
      clear x0 x1 x2 x3 x4
      have hw := (BK.fresh w1).write (g ++ ⟨#[46]⟩) (by rw [ByteArray.size_append]; show 0 + (g.size + 1) ≤ _; omega)
      refine hw.mono ?_
      rintro e w2 ⟨rfl, hk⟩
      replace hk : BK w1.heap.size w1.heap.size [] w1 (preL g) w2 := by
        unfold preL
        rw [if_neg h0]
        simpa using hk
      obtain ⟨x0, x1, x2, x3, x4⟩ := boxCells (hb1.trans (hk.2.2.1.mono hW1))
      go_wp2_with fail
      clear x0 x1 x2 x3 x4
    all_goals
      clear he h0
      have hw := (hk.write n (by omega))
      refine hw.mono ?_
      clear hw
      rintro e w3 ⟨rfl, hk3⟩
      clear hk
      have hB1 := hA.trans (hb1.mono (by omega))
      have hblt := hk3.lt
      obtain ⟨x0, x1, x2, x3, x4⟩ := boxCells (hb1.trans (hk3.2.2.1.mono hW1))
      go_wp2_with fail
      clear x0 x1 x2 x3 x4
      go_loopw [26] (fun v26 wr => ∃ (k : Nat) (acc : List UInt8), k ≤ l.length ∧ v26 = .int .i64 k ∧ Hid (acc = preL g ++ n.data.toList ++ (l.take k).flatMap parL) ∧ acc.length ≤ 65 + 66 * k ∧ BK w1.heap.size w1.heap.size [] w1 acc wr) (fun v26 _ => l.length - (intOf v26).toNat)
      case atStart => exact ⟨0, _, by omega, rfl, Lib.hid rfl, by simp only [List.length_append, List.take_zero, List.flatMap_nil, List.length_nil]; omega, by simpa using hk3⟩
      case round =>
        clear hk3 hblt
        obtain ⟨k, acc, hkk, rfl, hacc, hal, hk⟩ := hrel
        have hblt := hk.lt
        have hbW := hb1.trans (hk.2.2.1.mono hW1)
        have hB := hA.trans (hbW.mono (by omega))
        by_cases hkl : k < l.length
        · obtain ⟨c, hcl⟩ := some_at hkl
          obtain ⟨bb, oo, rfl, hs1, hb4, hok, y0, y1⟩ := par_get (hl.old hB) hcl
          have hk2 : (k : Int) < (l.length : Int) := by omega
          have hlim : k ≤ 100000 := by omega
          have hcok := HO.out.2.2.2.1 c (List.mem_of_getElem? hcl)
          have hcf := isPar_fits hcok
          have hcp := parL_len hcok
          have hc1 : c.1.data.toList.length = c.1.size := by simp
          have HT := Lib.hid (show acc ++ parL c = preL g ++ n.data.toList ++ (l.take (k + 1)).flatMap parL by rw [hacc.out, take_at2 hcl, List.flatMap_append]; simp)
          have hlen2 : (acc ++ parL c).length ≤ 65 + 66 * (k + 1) := by rw [List.length_append]; omega
          have he1 := empty_iff c.1
          clear hcok hcl
          rcases (show c.1.size = 0 ∨ c.1.size ≠ 0 by omega) with h0 | h0
          case' inl =>
            have HPL := Lib.hid (show parL c = 59 :: c.2.data.toList by unfold parL; rw [if_pos h0]; rfl)
            rw [decide_eq_true h0] at he1
            go_wp2_with fail
            have hkc := hk.copy c
            have hw := (hkc.write ⟨#[59]⟩ (by rw [show (⟨#[59]⟩ : ByteArray).size = 1 from rfl]; omega))
            refine hw.mono ?_
            clear hw
            rintro e w4 ⟨rfl, hk4⟩
            obtain ⟨z0, z1, hz4⟩ := hk4.cells
            go_wp2_with fail
            have hw := (hk4.write c.2 (by rw [List.length_append, show (⟨#[59]⟩ : ByteArray).data.toList.length = 1 from rfl]; omega))
            refine hw.mono ?_
            clear hw
            rintro e w5 ⟨rfl, hk5⟩
            go_wp2_with fail
            go_roundw
            case measure => simp [intOf]; omega
            case rel => exact ⟨k + 1, acc ++ parL c, by omega, by go_num, HT, hlen2, by rw [HPL.out]; simpa using hk5.drop⟩
          case' inr =>
            have HPL := Lib.hid (show parL c = 59 :: (c.1.data.toList ++ [61] ++ c.2.data.toList) by unfold parL; rw [if_neg h0])
            rw [decide_eq_false h0] at he1
            go_wp2_with fail
            have hkc := hk.copy c
            have hw := (hkc.write ⟨#[59]⟩ (by rw [show (⟨#[59]⟩ : ByteArray).size = 1 from rfl]; omega))
            refine hw.mono ?_
            clear hw
            rintro e w4 ⟨rfl, hk4⟩
            obtain ⟨z0, z1, hz4⟩ := hk4.cells
            go_wp2_with fail
            have hw := (hk4.write (c.1 ++ ⟨#[61]⟩) (by rw [List.length_append, ByteArray.size_append, show (⟨#[59]⟩ : ByteArray).data.toList.length = 1 from rfl, show (⟨#[61]⟩ : ByteArray).size = 1 from rfl]; omega))
            refine hw.mono ?_
            clear hw
            rintro e w5 ⟨rfl, hk5⟩
            obtain ⟨z0, z1, hz5⟩ := hk5.cells
            go_wp2_with fail
            have hw := (hk5.write c.2 (by simp; omega))
            refine hw.mono ?_
            clear hw
            rintro e w6 ⟨rfl, hk6⟩
            go_wp2_with fail
            go_roundw
            case measure => simp [intOf]; omega
            case rel => exact ⟨k + 1, acc ++ parL c, by omega, by go_num, HT, hlen2, by rw [HPL.out]; simpa using hk6.drop⟩
        · obtain rfl : k = l.length := by omega
          have HT := Lib.hid (show acc ++ 58 :: v.data.toList = lineL g n l v by rw [hacc.out, List.take_length]; unfold lineL; simp)
          clear hacc
          go_wp2_with fail
          have hw := (hk.write ⟨#[58]⟩ (by rw [show (⟨#[58]⟩ : ByteArray).size = 1 from rfl]; omega))
          refine hw.mono ?_
          clear hw
          rintro e w4 ⟨rfl, hk4⟩
          obtain ⟨x0, x1, x2, x3, x4⟩ := boxCells (hb1.trans (hk4.2.2.1.mono hW1))
          have hblt4 := hk4.lt
          go_wp2_with fail
          clear x0 x1 x2 x3 x4
          have hw := (hk4.write v (by rw [List.length_append, show (⟨#[58]⟩ : ByteArray).data.toList.length = 1 from rfl]; omega))
          refine hw.mono ?_
          clear hw
          rintro e w5 ⟨rfl, hk5⟩
          go_wp2_with fail
          refine hk5.string.mono ?_
          rintro e w6 ⟨rfl, hb6⟩
          go_wp2_with fail
          go_ret2
          exact ⟨by rw [HR.out, ← HT.out]; rfl, hB1.trans (hb6.mono (by have := hB1.size; omega))⟩
  · have HR := Lib.hid (show printP g n l v na = ([], chkP g n l v na) by unfold printP; rw [if_neg h0])
    have h0e : (chkP g n l v na == 0) = false := by simpa using h0
    clear h0
    generalize chkP g n l v na = q at *
    go_enter Tryd.func19, Tryd.ntmps19
    go_wp2_with fail
    refine HC.out.mono ?_
    rintro e w1 ⟨rfl, hb1⟩
    go_wp2_with fail
    go_ret2
    exact ⟨by rw [HR.out]; rfl, chain hA hb1⟩

theorem toB_append (l : List UInt8) (s : ByteArray) : (⟨l.toArray⟩ : ByteArray) ++ s = ⟨(l ++ s.data.toList).toArray⟩ := by
  apply ByteArray.ext; apply Array.toList_inj.1; simp
theorem toB_self (s : ByteArray) : s = ⟨s.data.toList.toArray⟩ := by
  apply ByteArray.ext; apply Array.toList_inj.1; simp

set_option maxHeartbeats 8000000 in
set_option maxRecDepth 100000 in
theorem print_ref (g n v : ByteArray) (aa : Option Addr) (na ca : Nat) (ao : Option Addr) (cap : Nat) (l : List Par) (w : World) (hl : SlAt rPar (· < w.heap.size) w ao l) (hlen : l.length ≤ 100000) (hv : v.size ≤ 100000) :
    Calls Tryd.prog 30 #[propV g n ao l.length cap v aa na ca] w (PrintPost (printP g n l v na) w) := by
  have hA : Below w.heap.size w (w.alloc (propC g n ao l.length cap v aa na ca)) := (Below.refl _ _).alloc (Nat.le_refl _) _
  have HC := Lib.hid (check_ref g n v aa na ca ao cap l _ (hl.old hA).here hlen hv)
  unfold propV at *
  by_cases h0 : chkP g n l v na = 0
  · have HR := Lib.hid (show printP g n l v na = (lineL g n l v, 0) by unfold printP; rw [if_pos h0])
    have HO := Lib.hid (chk_ok h0)
    rw [h0] at HC
    clear h0
    have he := empty_iff g
    obtain ⟨hg32, hn32⟩ : g.size ≤ 32 ∧ n.size ≤ 32 := by
      obtain ⟨h1, h2, _⟩ := HO.out
      exact ⟨by rcases h1 with h | h; omega; exact (fits_le (isName_fits h)).2, (fits_le (isName_fits h2)).2⟩
    have hl6 := HO.out.2.2.1
    have hv24 := HO.out.2.2.2.2.2.1
    have HPZ := Lib.hid (show (preL g ++ n.data.toList).length ≤ 65 by
      have := preL_len hg32
      have hnl : n.data.toList.length = n.size := by simp
      rw [List.length_append]; omega)
    rcases (show g.size = 0 ∨ g.size ≠ 0 by omega) with h0 | h0
    case' inl =>
      rw [decide_eq_true h0] at he
      have HPG := Lib.hid (show n = ⟨(preL g ++ n.data.toList).toArray⟩ by unfold preL; rw [if_pos h0]; exact toB_self n)
    case' inr =>
      rw [decide_eq_false h0] at he
      have HPG := Lib.hid (show g ++ ⟨#[46]⟩ ++ n = ⟨(preL g ++ n.data.toList).toArray⟩ by unfold preL; rw [if_neg h0]; apply ByteArray.ext; apply Array.toList_inj.1; simp)
    all_goals
      go_enter Tryd.func30, Tryd.ntmps30
      go_wp2_with fail
      refine HC.out.mono ?_
      rintro e w1 ⟨rfl, hb1⟩
      rw [World.size_alloc] at hb1
      have hW1 := hb1.size
      rw [World.size_alloc] at hW1
      have hlt1 : w.heap.size < w1.heap.size := by omega
      obtain ⟨x0, x1, x2, x3, x4⟩ := boxCells hb1
      go_wp2_with fail
      go_loopw [5, 6] (fun v5 v6 wr => ∃ (k : Nat) (t : ByteArray), k ≤ l.length ∧ v6 = .int .i64 k ∧ v5 = .string t ∧ Hid (t = ⟨(preL g ++ n.data.toList ++ (l.take k).flatMap parL).toArray⟩) ∧ t.size ≤ 65 + 66 * k ∧ wr = w1) (fun _ v6 _ => l.length - (intOf v6).toNat)
      case atStart => exact ⟨0, _, by omega, rfl, rfl, Lib.hid (by rw [List.take_zero, List.flatMap_nil, List.append_nil]; exact HPG.out), Nat.le_trans (Nat.le_of_eq (congrArg ByteArray.size HPG.out)) (by show (preL g ++ n.data.toList).toArray.size ≤ _; rw [List.size_toArray]; exact HPZ.out), rfl⟩
      case round =>
        obtain ⟨k, t, hkk, rfl, rfl, hacc, htz, rfl⟩ := hrel
        have hB := hA.trans (hb1.mono (by omega))
        by_cases hkl : k < l.length
        · obtain ⟨c, hcl⟩ := some_at hkl
          obtain ⟨bb, oo, rfl, hs1, hb4, hok, y0, y1⟩ := par_get (hl.old hB) hcl
          have hk2 : (k : Int) < (l.length : Int) := by omega
          have hlim : k ≤ 100000 := by omega
          have he1 := empty_iff c.1
          have hcf := isPar_fits (HO.out.2.2.2.1 c (List.mem_of_getElem? hcl))
          have hk5 : k ≤ 6 := by omega
          have htz6 : t.size ≤ 10000 := by omega
          rcases (show c.1.size = 0 ∨ c.1.size ≠ 0 by omega) with h1 | h1
          case' inl =>
            have HT := Lib.hid (show t ++ ⟨#[59]⟩ ++ c.2 = ⟨(preL g ++ n.data.toList ++ (l.take (k + 1)).flatMap parL).toArray⟩ by
              rw [hacc.out, take_at2 hcl, List.flatMap_append]; unfold parL; simp only [List.flatMap_cons, List.flatMap_nil]; rw [if_pos h1]; apply ByteArray.ext; apply Array.toList_inj.1; simp)
            rw [decide_eq_true h1] at he1
          case' inr =>
            have HT := Lib.hid (show t ++ ⟨#[59]⟩ ++ c.1 ++ ⟨#[61]⟩ ++ c.2 = ⟨(preL g ++ n.data.toList ++ (l.take (k + 1)).flatMap parL).toArray⟩ by
              rw [hacc.out, take_at2 hcl, List.flatMap_append]; unfold parL; simp only [List.flatMap_cons, List.flatMap_nil]; rw [if_neg h1]; apply ByteArray.ext; apply Array.toList_inj.1; simp)
            rw [decide_eq_false h1] at he1
          all_goals
            clear h1 hcl hacc
            go_wp2_with fail
            go_roundw
            case measure => simp [intOf]; omega
            case rel => exact ⟨k + 1, _, by omega, by go_num, rfl, HT, by simp only [ByteArray.size_append]; (repeat rw [show (⟨#[59]⟩ : ByteArray).size = 1 from rfl]); (repeat rw [show (⟨#[61]⟩ : ByteArray).size = 1 from rfl]); omega, by first | rfl | trivial⟩
        · obtain rfl : k = l.length := by omega
          have HT := Lib.hid (show t ++ ⟨#[58]⟩ ++ v = ⟨(lineL g n l v).toArray⟩ by rw [hacc.out, List.take_length]; unfold lineL; apply ByteArray.ext; apply Array.toList_inj.1; simp)
          clear hacc
          have htz6 : t.size ≤ 10000 := by omega
          go_wp2_with fail
          go_ret2
          exact ⟨by rw [HR.out, ← HT.out]; rfl, hB⟩
  · have HR := Lib.hid (show printP g n l v na = ([], chkP g n l v na) by unfold printP; rw [if_neg h0])
    have h0e : (chkP g n l v na == 0) = false := by simpa using h0
    clear h0
    generalize chkP g n l v na = q at *
    go_enter Tryd.func30, Tryd.ntmps30
    go_wp2_with fail
    refine HC.out.mono ?_
    rintro e w1 ⟨rfl, hb1⟩
    go_wp2_with fail
    go_ret2
    exact ⟨by rw [HR.out]; rfl, chain hA hb1⟩
end Go.Proofs.YtcfbmfcobpfcjaaDoor
