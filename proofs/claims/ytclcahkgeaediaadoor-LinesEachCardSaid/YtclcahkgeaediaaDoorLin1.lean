/- Texts in lines: the reference's Same and Split, the program's Split. -/
import Derived.Test.YtclcahkgeaediaaDoorStrs
import Derived.Test.YtclcahkgeaediaaDoorCut1
namespace Go.Proofs.YtclcahkgeaediaaDoor
open Go.RowKit Lift
set_option linter.unusedSimpArgs false
set_option linter.unusedVariables false
set_option maxHeartbeats 1000000 in
set_option maxRecDepth 100000 in
theorem same_strs (ao bo : Option Addr) (cap cap2 : Nat) (l m : List ByteArray) (w : World) (hl : SlAt Rd.str (· < w.heap.size) w ao l) (hm : SlAt Rd.str (· < w.heap.size) w bo m) (hlen : l.length ≤ 100000) :
    Calls Tryd.prog 6 #[.slice ao l.length cap, .slice bo m.length cap2] w (BelowPost (.bool (decide (l = m))) w) := by
  by_cases hlm : l.length = m.length
  · have hne : ((l.length : Int) != (m.length : Int)) = false := by simp [hlm]
    have hle1 : l.length ≤ m.length := by omega
    have hle2 : m.length ≤ l.length := by omega
    have HLM := Lib.hid hlm
    clear hlm
    go_enter Tryd.func6, Tryd.ntmps6
    go_wp2_with fail
    go_loopw [5] (fun v5 wr => ∃ k : Nat, k ≤ l.length ∧ v5 = .int .i64 k ∧ Hid (l.take k = m.take k) ∧ Below w.heap.size w wr) (fun v5 _ => l.length - (intOf v5).toNat)
    case atStart => exact ⟨0, by omega, rfl, Lib.hid rfl, Below.refl _ _⟩
    case round =>
      obtain ⟨k, hk, rfl, heq, hb⟩ := hrel
      by_cases hkl : k < l.length
      · obtain ⟨c, hcl⟩ := some_at hkl
        obtain ⟨d, hdm⟩ := some_at (show k < m.length by omega)
        obtain ⟨b1, o1, rfl, hs1, hb1, hok1, x0⟩ := str_get (hl.old hb) hcl
        obtain ⟨b2, o2, rfl, hs2, hb2, hok2, y0⟩ := str_get (hm.old hb) hdm
        have hkl1 : (k:Int) < (l.length : Int) := by omega
        have hkm : (k:Int) < (m.length : Int) := by omega
        have hlim : k ≤ 100000 := by omega
        by_cases hcd : c = d
        · have HT := Lib.hid (take_same heq.out hcl hdm hcd)
          subst hcd
          go_wp2_with fail
          (refine wp_region_quiet_lit (by kernel_rfl) (by kernel_rfl) ?_; (repeat (any_goals (first | go_big_quiet_step (fail) | quiet_step (fail) | (refine wpQuiet_step (fun K hK => ?_); go_simp; split <;> (refine hK _ ?_; clear hK K))))); all_goals (refine wpQuiet_nil ?_; intro _ hw'; obtain ⟨nq, hw''⟩ := hw'; subst hw''))
          go_wp2_with fail
          go_roundw
          case measure => simp [intOf]; omega
          case rel => exact ⟨k + 1, by omega, by go_num, HT, bN _ hb⟩
        · have HT := Lib.hid (ne_at hcl hdm hcd)
          have e0 : (c.toList == d.toList) = false := by rw [str_eq]; simpa using hcd
          clear hcd
          go_wp2_with fail
          (refine wp_region_quiet_lit (by kernel_rfl) (by kernel_rfl) ?_; (repeat (any_goals (first | go_big_quiet_step (fail) | quiet_step (fail) | (refine wpQuiet_step (fun K hK => ?_); go_simp; split <;> (refine hK _ ?_; clear hK K))))); all_goals (refine wpQuiet_nil ?_; intro _ hw'; obtain ⟨nq, hw''⟩ := hw'; subst hw''))
          go_wp2_with fail
          go_ret
          exact ⟨ret_bool (by simpa using HT.out), bN _ hb⟩
      · obtain rfl : k = l.length := by omega
        have HT := Lib.hid (show l = m by have := heq.out; rwa [List.take_length, List.take_of_length_le hle2] at this)
        go_wp2_with fail
        go_ret
        exact ⟨ret_bool (by simpa using HT.out), hb⟩
  · have hne : ((l.length : Int) != (m.length : Int)) = true := by simp; omega
    have HLM := Lib.hid hlm
    clear hlm
    go_enter Tryd.func6, Tryd.ntmps6
    go_wp2_with fail
    go_ret
    exact ⟨ret_bool (by have := HLM.out; simp; rintro rfl; exact this rfl), Below.refl _ _⟩

/-- A line without the 13 at its end. -/
def chop (t : List UInt8) : List UInt8 := if t.getLast? = some 13 then t.dropLast else t
/-- A text's lines; t: what there is of the first one. -/
def splitA : List UInt8 → List UInt8 → List (List UInt8)
  | t, [] => if t = [] then [] else [t]
  | t, c :: r => if c = 10 then chop t :: splitA [] r else splitA (t ++ [c]) r
def toB (l : List UInt8) : ByteArray := ⟨l.toArray⟩
theorem toB_list (l : List UInt8) : (toB l).data.toList = l := rfl
theorem toB_of (s : ByteArray) : toB s.data.toList = s := rfl
theorem toB_size (l : List UInt8) : (toB l).size = l.length := rfl
def linesB (t s : List UInt8) : List ByteArray := (splitA t s).map toB

theorem splitA_none : ∀ (s t : List UInt8), (∀ k : Nat, s[k]? ≠ some 10) → splitA t s = if t ++ s = [] then [] else [t ++ s]
  | [], t, h => by simp [splitA]
  | c :: r, t, h => by
    have hc : c ≠ 10 := fun e => h 0 (by simp [e])
    rw [splitA, if_neg hc, splitA_none r (t ++ [c]) (fun k => by have := h (k + 1); simpa using this)]
    simp
theorem splitA_some : ∀ (i : Nat) (s t : List UInt8), s[i]? = some 10 → (∀ k : Nat, k < i → s[k]? ≠ some 10) → splitA t s = chop (t ++ s.take i) :: splitA [] (s.drop (i + 1))
  | _, [], t, h, _ => by simp at h
  | 0, c :: r, t, h, _ => by
    simp at h
    rw [splitA, if_pos h]; simp
  | i + 1, c :: r, t, h, hb => by
    have hc : c ≠ 10 := fun e => hb 0 (by omega) (by simp [e])
    rw [splitA, if_neg hc, splitA_some i r (t ++ [c]) (by simpa using h) (fun k hk => by have := hb (k + 1) (by omega); simpa using this)]
    simp
theorem splitA_len : ∀ (s t : List UInt8), (splitA t s).length ≤ s.length + 1 ∧ (t = [] → (splitA t s).length ≤ s.length) ∧ ∀ x ∈ splitA t s, x.length ≤ t.length + s.length
  | [], t => by rw [splitA]; split <;> simp_all
  | c :: r, t => by
    rw [splitA]
    split
    · obtain ⟨h1, h2, h3⟩ := splitA_len r []
      have hch : (chop t).length ≤ t.length := by unfold chop; split <;> simp
      have h4 := h2 rfl
      refine ⟨by simp; omega, fun _ => by simp; omega, fun x hx => ?_⟩
      rcases List.mem_cons.1 hx with rfl | hx
      · simp; omega
      · have := h3 x hx; simp at this ⊢; omega
    · obtain ⟨h1, h2, h3⟩ := splitA_len r (t ++ [c])
      refine ⟨by simp; omega, fun _ => by simp; omega, fun x hx => ?_⟩
      have := h3 x hx; simp at this ⊢; omega

def strLen : Value → Nat
  | .string s => s.size
  | _ => 0
theorem extract_drop (s : ByteArray) (k : Nat) : (s.extract k s.size).data.toList = s.data.toList.drop k := by
  simp only [ByteArray.data_extract, Array.toList_extract, List.extract_eq_take_drop]
  rw [List.take_of_length_le (by simp)]
theorem extract_take (s : ByteArray) (k : Nat) : (s.extract 0 k).data.toList = s.data.toList.take k := by
  simp [ByteArray.data_extract, Array.toList_extract, List.extract_eq_take_drop]

/-- strings.TrimSuffix at a suffix of one byte. -/
def trimB (s : ByteArray) (c : UInt8) : ByteArray := if s.data.toList.getLast? = some c then s.extract 0 (s.size - 1) else s
theorem trimB_list (s : ByteArray) : (trimB s 13).data.toList = chop s.data.toList := by
  unfold trimB chop
  split
  · rw [extract_take, List.dropLast_eq_take]; simp
  · rfl
theorem last_at (s : ByteArray) (h : 0 < s.size) : s.data.toList.getLast? = some (s.data.toList.getD (s.size - 1) 0) := by
  have hl : s.data.toList.length - 1 < s.data.toList.length := by simp; omega
  rw [List.getLast?_eq_getElem?, List.getD_eq_getElem?_getD, show s.size - 1 = s.data.toList.length - 1 by simp, List.getElem?_eq_getElem hl]
  rfl
theorem last_one (s : ByteArray) (h : 0 < s.size) : (s.extract (s.size - 1) s.size).toList = [s.data.toList.getD (s.size - 1) 0] := by
  rw [byte_list, extract_drop, bytes_drop s (s.size - 1) (by omega), show s.size - 1 + 1 = s.size by omega, List.drop_of_length_le (by simp)]
set_option maxHeartbeats 1000000 in
set_option maxRecDepth 100000 in
theorem suffix_lite (s : ByteArray) (c : UInt8) (w : World) (hs : s.size ≤ 1000000) : Calls Tryd.prog 51 #[.string s, .string ⟨#[c]⟩] w (BelowPost (.bool (decide (s.data.toList.getLast? = some c))) w) := by
  by_cases h0 : 0 < s.size
  · have hg : ((1:Int) ≤ (s.size : Int)) := by omega
    have HO := last_one s h0
    rw [last_at s h0]
    by_cases hc : s.data.toList.getD (s.size - 1) 0 = c
    · have hq : ((s.extract (s.size - 1) s.size).toList == [c]) = true := by rw [HO, hc]; simp
      rw [decide_eq_true (show some (s.data.toList.getD (s.size - 1) 0) = some c by rw [hc])]
      clear HO hc
      go_enter Tryd.func51, Tryd.ntmps51
      go_wp2_with fail
      go_ret
      exact ⟨rfl, Below.refl _ _⟩
    · have hq : ((s.extract (s.size - 1) s.size).toList == [c]) = false := by rw [HO]; simpa using hc
      rw [decide_eq_false (show ¬ some (s.data.toList.getD (s.size - 1) 0) = some c from fun e => hc (Option.some.inj e))]
      clear HO hc
      go_enter Tryd.func51, Tryd.ntmps51
      go_wp2_with fail
      go_ret
      exact ⟨rfl, Below.refl _ _⟩
  · have hz : s.data.toList = [] := nil_of h0
    have hg : ¬ ((1:Int) ≤ (s.size : Int)) := by omega
    rw [hz, decide_eq_false (by simp)]
    clear hz
    go_enter Tryd.func51, Tryd.ntmps51
    go_wp2_with fail
    go_ret
    exact ⟨rfl, Below.refl _ _⟩
def StrB (s : ByteArray) (w : World) (e : Ending) (w' : World) : Prop := e = .returned (.string s) ∧ Below w.heap.size w w'
set_option maxHeartbeats 1000000 in
set_option maxRecDepth 100000 in
theorem trim_lite (s : ByteArray) (c : UInt8) (w : World) (hs : s.size ≤ 1000000) : Calls Tryd.prog 44 #[.string s, .string ⟨#[c]⟩] w (StrB (trimB s c) w) := by
  have HC := Lib.hid (suffix_lite s c w hs)
  by_cases h : s.data.toList.getLast? = some c
  · have h0 : 1 ≤ s.size := by
      rcases Nat.eq_zero_or_pos s.size with h0 | h0
      · have hz : s.data.toList = [] := List.eq_nil_of_length_eq_zero (by simpa using h0)
        rw [hz] at h; simp at h
      · omega
    rw [decide_eq_true h] at HC
    rw [show trimB s c = s.extract 0 (s.size - 1) by unfold trimB; rw [if_pos h]]
    clear h
    go_enter Tryd.func44, Tryd.ntmps44
    go_wp2_with fail
    refine HC.out.mono ?_
    rintro e w1 ⟨rfl, hb1⟩
    go_wp2_with fail
    go_ret
    exact ⟨rfl, hb1⟩
  · rw [decide_eq_false h] at HC
    rw [show trimB s c = s by unfold trimB; rw [if_neg h]]
    clear h
    go_enter Tryd.func44, Tryd.ntmps44
    go_wp2_with fail
    refine HC.out.mono ?_
    rintro e w1 ⟨rfl, hb1⟩
    go_wp2_with fail
    go_ret
    exact ⟨rfl, hb1⟩
set_option maxHeartbeats 1000000 in
set_option maxRecDepth 100000 in
theorem trim_any (s : ByteArray) (c : UInt8) (w : World) (hs : s.size ≤ 1000000) : Calls Tryd.prog 32 #[.string s, .string ⟨#[c]⟩] w (StrB (trimB s c) w) := by
  have HC := Lib.hid (trim_lite s c w hs)
  go_enter Tryd.func32, Tryd.ntmps32
  go_wp2_with fail
  refine HC.out.mono ?_
  rintro e w1 ⟨rfl, hb1⟩
  go_wp2_with fail
  go_ret
  exact ⟨rfl, hb1⟩
end Go.Proofs.YtclcahkgeaediaaDoor
