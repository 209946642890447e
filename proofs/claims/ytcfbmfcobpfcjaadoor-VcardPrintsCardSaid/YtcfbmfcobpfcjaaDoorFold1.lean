/- A line in lines that are not too long: the program's Fold and the document's. -/
import Derived.Test.YtcfbmfcobpfcjaaDoorStrs
import Derived.Test.YtcfbmfcobpfcjaaDoorLastAt
namespace Go.Proofs.YtcfbmfcobpfcjaaDoor
open Go.RowKit Lift
set_option linter.unusedSimpArgs false
set_option linter.unusedVariables false

/-- Where a line is cut behind so many bytes; below 0: nowhere. -/
def cutAt (W : Nat) (s : ByteArray) : Int := lastAny [32, 9] (s.extract 1 (W + 1)).data.toList
def foldS (W : Nat) : Nat → ByteArray → List ByteArray
  | 0, s => [s]
  | f + 1, s => if W < s.size ∧ 0 ≤ cutAt W s then s.extract 0 ((cutAt W s).toNat + 1) :: foldS W f (s.extract ((cutAt W s).toNat + 1) s.size) else [s]
def foldW (s : ByteArray) (width : Int) : List ByteArray := foldS (max width 2).toNat s.size s
theorem lastAny_lt (c : List UInt8) : ∀ l : List UInt8, -1 ≤ lastAny c l ∧ lastAny c l < l.length
  | [] => by simp [lastAny]
  | b :: l => by
    have ih := lastAny_lt c l
    unfold lastAny
    simp only [List.length_cons]
    repeat' split
    all_goals omega
theorem cutAt_lt {W : Nat} {s : ByteArray} (h : W < s.size) : -1 ≤ cutAt W s ∧ cutAt W s < W := by
  have h1 := lastAny_lt [32, 9] (s.extract 1 (W + 1)).data.toList
  have h2 : (s.extract 1 (W + 1)).data.toList.length = W := by
    have : (s.extract 1 (W + 1)).size = W := by rw [ByteArray.size_extract]; omega
    rw [show (s.extract 1 (W + 1)).data.toList.length = (s.extract 1 (W + 1)).size by show _ = (s.extract 1 (W + 1)).data.size; simp only [Array.length_toList], this]
  unfold cutAt
  omega
theorem foldS_stop {W f : Nat} {s : ByteArray} (h : ¬ (W < s.size ∧ 0 ≤ cutAt W s)) : foldS W f s = [s] := by
  cases f with
  | zero => rfl
  | succ f => unfold foldS; rw [if_neg h]
theorem foldS_go {W f : Nat} {s : ByteArray} (h1 : W < s.size) {n : Nat} (h2 : cutAt W s = n) : foldS W (f + 1) s = s.extract 0 (n + 1) :: foldS W f (s.extract (n + 1) s.size) := by
  rw [foldS, if_pos ⟨h1, by rw [h2]; omega⟩, h2]; simp
theorem bl_low : Low ⟨#[32, 9]⟩ := by
  intro b hb
  have : b ∈ ([32, 9] : List UInt8) := hb
  simp at this
  rcases this with rfl | rfl <;> decide

set_option maxHeartbeats 8000000 in
set_option maxRecDepth 100000 in
theorem fold_any (s : ByteArray) (width : Int) (w : World) (hs : s.size ≤ 100000) (hw : Wf width) (hLA : ∀ (s : ByteArray) (w' : World), (s.size : Int) = max width 2 → s.size ≤ 100000 → Below w.heap.size w w' → Calls Tryd.prog 43 #[.string s, .string ⟨#[32, 9]⟩] w' (BelowPost (.int .i64 (lastAny [32, 9] s.data.toList)) w')) :
    Calls Tryd.prog 21 #[.string s, .int .i64 width] w (RowPost Rd.str 9 (foldW s width) w) := by
  obtain ⟨i0, hi, hz0, hz1, hz2⟩ := str_info0
  have HI := Lib.hid hi; have HZ0 := Lib.hid hz0; have HZ1 := Lib.hid hz1; have HZ2 := Lib.hid hz2
  clear hi hz0 hz1 hz2
  have HL := Lib.hid hLA
  clear hLA
  obtain ⟨W, hW⟩ : ∃ W : Nat, max width 2 = (W : Int) := ⟨(max width 2).toNat, by omega⟩
  have hwf := int_i64 hw
  have hW1 : (W : Int) ≤ 9223372036854775807 := by omega
  have hW2 : 2 ≤ W := by omega
  have HF := Lib.hid (show foldW s width = [] ++ foldS W s.size s by unfold foldW; rw [hW]; rfl)
  clear hwf hw
  go_enter Tryd.func21, Tryd.ntmps21
  go_wp2_with fail
  go_loopw [0, 5] (fun v0 v5 wr => ∃ (f : Nat) (x : ByteArray) (acc : List ByteArray), v0 = .string x ∧ x.size ≤ f ∧ acc.length + f ≤ s.size ∧ Hid (foldW s width = acc ++ foldS W f x) ∧ Own Rd.str (fun _ => True) wr w.heap.size 9 v5 acc ∧ Below w.heap.size w wr) (fun v0 _ _ => match v0 with | .string x => x.size | _ => 0)
  case atStart => exact ⟨s.size, s, [], rfl, by omega, by simp, HF, Own.nil _ _ _ _ _, Below.refl _ _⟩
  case round =>
    clear HF
    obtain ⟨f, x, acc, rfl, hxf, hacc, HF, hO, hb⟩ := hrel
    have hz := bsize hb
    have hxs : x.size ≤ 100000 := by omega
    by_cases hlt : W < x.size
    · have hlt2 : (W : Int) < (x.size : Int) := by omega
      have hcl := cutAt_lt hlt
      have hxz : (x.extract 1 (W + 1)).size = W := by rw [ByteArray.size_extract]; omega
      have HC := Lib.hid (HL.out (x.extract 1 (W + 1)) wr (by rw [hxz, hW]) (by omega) hb)
      obtain ⟨q, hq⟩ : ∃ q, cutAt W x = q := ⟨_, rfl⟩
      rw [show lastAny [32, 9] (x.extract 1 (W + 1)).data.toList = q from hq] at HC
      rw [hq] at hcl
      rcases (show q = -1 ∨ 0 ≤ q by omega) with hq1 | hq1
      · have HR := Lib.hid (show foldW s width = acc ++ [x] by rw [HF.out, foldS_stop (by rw [hq, hq1]; omega)])
        subst hq1
        obtain ⟨c, hc⟩ : ∃ c, x = c := ⟨_, rfl⟩
        subst hc
        have hcz : x.size ≤ maxTx := by unfold maxTx; omega
        clear HF hq hxz
        go_wp2_with fail
        refine HC.out.mono ?_
        rintro e w1 ⟨rfl, hb1⟩
        have hB1 := hb.trans (hb1.mono hz)
        replace hO := hO.below hb1
        have hz1 := bsize hB1
        clear hb1 HC
        obtain ⟨ao, cap, rfl⟩ := hO.form
        go_wp2_with (first | (at_builtin; refine wpList_push Rd.str rfl _ _ 33 rfl w.heap.size 9 i0 _ 16 Tryd.underlying33 HI.out HZ0.out HZ1.out HZ2.out rfl (by decide) (fun _ => True) _ acc rfl hO [.string x] x _ rfl (by simp) (str_rel _ _ x hcz) (by simp [Value.oneCell']) (by unfold maxLen; omega) (by omega) (by first | omega | (simp; omega)) ?_; intro v2 w2 hO2 hK2 hw2; obtain ⟨ao2, cap2, rfl⟩ := hO2.form))
        go_ret
        exact ⟨ao2, cap2, by rw [HR.out, List.length_append]; rfl, by rw [HR.out]; exact hO2, hB1.trans (hO.kbelow (Nat.le_refl _) hz1 hK2)⟩
      · obtain ⟨n, rfl⟩ := Int.eq_ofNat_of_zero_le hq1
        have hn1 : n < W := by omega
        cases f with
        | zero => omega
        | succ f =>
        have HR := Lib.hid (show foldW s width = (acc ++ [x.extract 0 (n + 1)]) ++ foldS W f (x.extract (n + 1) x.size) by rw [HF.out, foldS_go hlt hq]; simp)
        have hz2 : (x.extract 0 (n + 1)).size = n + 1 := by rw [ByteArray.size_extract]; omega
        have hz3 : (x.extract (n + 1) x.size).size = x.size - (n + 1) := by rw [ByteArray.size_extract]; omega
        have hz4 : n + 1 ≤ 100000 := by omega
        have hn0 : ((n : Int) + 1 == 0) = false := by simp; omega
        clear HF hq hxz hq1
        go_wp2_with fail
        refine HC.out.mono ?_
        rintro e w1 ⟨rfl, hb1⟩
        have hB1 := hb.trans (hb1.mono hz)
        replace hO := hO.below hb1
        have hz1 := bsize hB1
        clear hb1 HC
        obtain ⟨ao, cap, rfl⟩ := hO.form
        obtain ⟨c, hc⟩ : ∃ c, x.extract 0 (n + 1) = c := ⟨_, rfl⟩
        have hcz : c.size ≤ maxTx := by rw [← hc]; unfold maxTx; omega
        rw [hc] at HR
        have hxn : n + 1 ≤ x.size := by omega
        go_wp2_with (first | (at_builtin; refine wpList_push Rd.str rfl _ _ 33 rfl w.heap.size 9 i0 _ 16 Tryd.underlying33 HI.out HZ0.out HZ1.out HZ2.out rfl (by decide) (fun _ => True) _ acc rfl hO [.string c] c _ rfl (by simp) (str_rel _ _ c hcz) (by simp [Value.oneCell']) (by unfold maxLen; omega) (by omega) (by first | omega | (simp; omega)) ?_; intro v2 w2 hO2 hK2 hw2; obtain ⟨ao2, cap2, rfl⟩ := hO2.form))
        go_roundw
        case measure => simp only; omega
        case rel => exact ⟨f, _, acc ++ [c], rfl, by omega, by simp; omega, HR, by have h := hO2; rw [List.length_append, List.length_singleton] at h; exact h, hB1.trans (hO.kbelow (Nat.le_refl _) hz1 hK2)⟩
    · have HR := Lib.hid (show foldW s width = acc ++ [x] by rw [HF.out, foldS_stop (by omega)])
      have hlt2 : ¬ (W : Int) < (x.size : Int) := by omega
      have hcz : x.size ≤ maxTx := by unfold maxTx; omega
      clear HF
      obtain ⟨ao, cap, rfl⟩ := hO.form
      go_wp2_with (first | (at_builtin; refine wpList_push Rd.str rfl _ _ 33 rfl w.heap.size 9 i0 _ 16 Tryd.underlying33 HI.out HZ0.out HZ1.out HZ2.out rfl (by decide) (fun _ => True) _ acc rfl hO [.string x] x _ rfl (by simp) (str_rel _ _ x hcz) (by simp [Value.oneCell']) (by unfold maxLen; omega) (by omega) (by first | omega | (simp; omega)) ?_; intro v2 w2 hO2 hK2 hw2; obtain ⟨ao2, cap2, rfl⟩ := hO2.form))
      go_ret
      exact ⟨ao2, cap2, by rw [HR.out, List.length_append]; rfl, by rw [HR.out]; exact hO2, hb.trans (hO.kbelow (Nat.le_refl _) hz hK2)⟩

/-- Is a byte a blank? -/
def blAt (s : ByteArray) (i : Nat) : Bool := match s.data.toList[i]? with | some c => ([32, 9] : List UInt8).contains c | none => false
theorem bl_mem (y : UInt8) : ([32, 9] : List UInt8).contains y = (decide (y.toNat = 32) || decide (y.toNat = 9)) := by
  rw [Bool.eq_iff_iff]
  have h : ∀ k : UInt8, (y = k ↔ y.toNat = k.toNat) := fun k => UInt8.toNat_inj.symm
  simp only [List.contains_cons, List.contains_nil, Bool.or_eq_true, beq_iff_eq, Bool.or_false, decide_eq_true_eq]
  exact or_congr (h 32) (h 9)
theorem blAt_some {s : ByteArray} {i : Nat} {c : UInt8} (h : s.data.toList[i]? = some c) : blAt s i = ([32, 9] : List UInt8).contains c := by unfold blAt; rw [h]
theorem blAt_none {s : ByteArray} {i : Nat} (h : s.size ≤ i) : blAt s i = false := by unfold blAt; rw [List.getElem?_eq_none (by simp; omega)]
theorem blank_at (s : ByteArray) (k : Nat) (w : World) (hs : s.size ≤ 100000) (h1 : k ≤ 200000) :
    Calls Tryd.prog 53 #[.string s, .int .i64 k] w (BoolPost (blAt s k) w) := by
  by_cases hk : k < s.size
  · have hk2 : (k : Int) < (s.size : Int) := by omega
    obtain ⟨y, hy⟩ : ∃ y, s[k]'hk = y := ⟨_, rfl⟩
    have hyn := y.toNat_lt
    have hyl : s.data.toList[k]? = some y := by rw [← hy]; exact Lib.data_getElem? s k hk
    rw [blAt_some hyl, bl_mem]
    clear hyl
    by_cases h32 : y.toNat = 32
    · have e1 : ((y.toNat : Int) == 32) = true := by simp; omega
      have HR := Lib.hid (show (decide (y.toNat = 32) || decide (y.toNat = 9)) = true by simp [h32])
      clear h32
      go_enter Tryd.func53, Tryd.ntmps53
      go_wp2_with fail
      go_ret
      exact ⟨by rw [HR.out]; rfl, rfl⟩
    · have e1 : ((y.toNat : Int) == 32) = false := by simp; omega
      have HR := Lib.hid (show (decide (y.toNat = 32) || decide (y.toNat = 9)) = ((y.toNat : Int) == 9) by rw [decide_eq_false h32, Bool.false_or, Bool.eq_iff_iff]; simp; omega)
      clear h32
      go_enter Tryd.func53, Tryd.ntmps53
      go_wp2_with fail
      go_ret
      exact ⟨by rw [HR.out]; rfl, rfl⟩
  · have hk2 : ¬ (k : Int) < (s.size : Int) := by omega
    have HR := Lib.hid (blAt_none (show s.size ≤ k by omega))
    go_enter Tryd.func53, Tryd.ntmps53
    go_wp2_with fail
    go_ret
    exact ⟨by rw [HR.out]; rfl, rfl⟩
/-- The last blank from 1 on, ahead of k; 0: none. -/
def lastB (s : ByteArray) : Nat → Nat
  | 0 => 0
  | k + 1 => if 1 ≤ k ∧ blAt s k = true then k else lastB s k
theorem lastB_le (s : ByteArray) : ∀ k, lastB s k ≤ k
  | 0 => Nat.le_refl _
  | k + 1 => by have := lastB_le s k; unfold lastB; split <;> omega
theorem lastB_spec (s : ByteArray) : ∀ k, (lastB s k = 0 ∧ ∀ j, 1 ≤ j → j < k → blAt s j = false) ∨ (1 ≤ lastB s k ∧ lastB s k < k ∧ blAt s (lastB s k) = true ∧ ∀ j, lastB s k < j → j < k → blAt s j = false)
  | 0 => .inl ⟨rfl, fun j h1 h2 => by omega⟩
  | k + 1 => by
    unfold lastB
    split
    · rename_i h
      exact .inr ⟨h.1, by omega, h.2, fun j h1 h2 => by omega⟩
    · rename_i h
      have hk : ∀ j, j = k → 1 ≤ j → blAt s j = false := fun j hj h1 => by
        subst hj
        cases hb : blAt s j
        · rfl
        · exact absurd ⟨h1, hb⟩ h
      rcases lastB_spec s k with ⟨h1, h2⟩ | ⟨h1, h2, h3, h4⟩
      · exact .inl ⟨h1, fun j g1 g2 => by
          by_cases e : j = k
          · exact hk j e g1
          · exact h2 j g1 (by omega)⟩
      · exact .inr ⟨h1, by omega, h3, fun j g1 g2 => by
          by_cases e : j = k
          · exact hk j e (by omega)
          · exact h4 j g1 (by omega)⟩
theorem cut_lastB {W : Nat} {s : ByteArray} (h : W < s.size) : (lastB s (W + 1) : Int) = cutAt W s + 1 := by
  have hz : (s.extract 1 (W + 1)).data.toList.length = W := by
    have : (s.extract 1 (W + 1)).size = W := by rw [ByteArray.size_extract]; omega
    rw [show (s.extract 1 (W + 1)).data.toList.length = (s.extract 1 (W + 1)).size by show _ = (s.extract 1 (W + 1)).data.size; simp only [Array.length_toList], this]
  have hat : ∀ j, j < W → (s.extract 1 (W + 1)).data.toList[j]? = s.data.toList[j + 1]? := by
    intro j hj
    rw [ByteArray.data_extract, Array.toList_extract, List.extract_eq_take_drop, List.getElem?_take, if_pos (by omega), List.getElem?_drop, Nat.add_comm]
  have hno : ∀ i, (∀ j, i < j → j < W + 1 → blAt s j = false) → NoFrom (s.extract 1 (W + 1)).data.toList [32, 9] i := by
    intro i hi j b hj hb
    have hjl := (List.getElem?_eq_some_iff.1 hb).1
    rw [hat j (by omega)] at hb
    rw [← blAt_some hb]
    exact hi (j + 1) (by omega) (by omega)
  unfold cutAt
  rcases lastB_spec s (W + 1) with ⟨h1, h2⟩ | ⟨h1, h2, h3, h4⟩
  · rw [lastAny_none (hno 0 (fun j g1 g2 => h2 j (by omega) g2)), h1]; rfl
  · generalize lastB s (W + 1) = k at *
    obtain ⟨c, hc⟩ : ∃ c, s.data.toList[k]? = some c := some_at (by simp; omega)
    rw [blAt_some hc] at h3
    rw [lastAny_hit (i := k - 1) h3 (by rw [hat (k - 1) (by omega), show k - 1 + 1 = k by omega]; exact hc) (by rw [show k - 1 + 1 = k by omega]; exact hno k h4)]
    omega
end Go.Proofs.YtcfbmfcobpfcjaaDoor
