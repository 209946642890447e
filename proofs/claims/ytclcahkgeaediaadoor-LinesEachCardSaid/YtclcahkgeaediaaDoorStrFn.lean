/- Texts: whether one begins with a byte, where one is that a predicate holds of, many as one. -/
import Derived.Test.YtclcahkgeaediaaDoorFold1
import Derived.Test.YtclcahkgeaediaaDoorBuilder
import Derived.Test.YtclcahkgeaediaaDoorCut1
namespace Go.Proofs.YtclcahkgeaediaaDoor
open Go.RowKit Lift
set_option linter.unusedSimpArgs false
set_option linter.unusedVariables false

theorem pre_one (s : ByteArray) (c : UInt8) (h : 0 < s.size) : ((s.extract 0 1).toList == [c]) = decide (s.data.toList[0]? = some c) := by
  obtain ⟨y, hy⟩ : ∃ y, s.data.toList[0]? = some y := some_at (by simp; omega)
  have h1 : (s.extract 0 1).data.toList = [y] := by
    rw [extract_take]
    cases hd : s.data.toList with
    | nil => rw [hd] at hy; simp at hy
    | cons a r => rw [hd] at hy; simp at hy; subst hy; rfl
  rw [byte_list, h1, hy]
  rw [Bool.eq_iff_iff]
  simp
set_option maxHeartbeats 1000000 in
set_option maxRecDepth 100000 in
theorem hasPrefix_one (s : ByteArray) (c : UInt8) (w : World) (hs : s.size ≤ 1000000) : Calls Tryd.prog 41 #[.string s, .string ⟨#[c]⟩] w (BoolPost (decide (s.data.toList[0]? = some c)) w) := by
  by_cases h : 0 < s.size
  · have HP := Lib.hid (pre_one s c h)
    have h1 : (1 : Int) ≤ (s.size : Int) := by omega
    obtain ⟨u, hu⟩ : ∃ u, decide (s.data.toList[0]? = some c) = u := ⟨_, rfl⟩
    rw [hu] at HP ⊢
    have he := HP.out
    clear hu
    go_enter Tryd.func41, Tryd.ntmps41
    go_wp2
    go_ret
    exact ⟨by first | rfl | (rw [HP.out]; rfl), rfl⟩
  · have h1 : ¬ (1 : Int) ≤ (s.size : Int) := by omega
    obtain ⟨u, hu⟩ : ∃ u, decide (s.data.toList[0]? = some c) = u := ⟨_, rfl⟩
    have HR := Lib.hid (show u = false by rw [← hu, decide_eq_false_iff_not, nil_of h]; simp)
    rw [hu]
    clear hu
    go_enter Tryd.func41, Tryd.ntmps41
    go_wp2
    go_ret
    exact ⟨by first | rfl | (rw [HR.out]; rfl), rfl⟩
theorem blAt_zero (s : ByteArray) : blAt s 0 = (decide (s.data.toList[0]? = some 32) || decide (s.data.toList[0]? = some 9)) := by
  unfold blAt
  cases s.data.toList[0]? with
  | none => rfl
  | some c =>
    simp only [List.contains_cons, List.contains_nil, Bool.or_false, Option.some.injEq]
    rw [Bool.eq_iff_iff]; simp
set_option maxHeartbeats 1000000 in
set_option maxRecDepth 100000 in
theorem goesOn_any (s : ByteArray) (w : World) (hs : s.size ≤ 1000000) : Calls Tryd.prog 29 #[.string s] w (BoolPost (blAt s 0) w) := by
  have H1 := Lib.hid (fun w => hasPrefix_one s 32 w hs)
  have H2 := Lib.hid (fun w => hasPrefix_one s 9 w hs)
  rw [blAt_zero]
  cases h1 : decide (s.data.toList[0]? = some 32) with
  | true =>
    rw [h1] at H1
    clear h1
    go_enter Tryd.func29, Tryd.ntmps29
    go_wp2_with (go_at_call 41; refine (H1.out _).mono ?_; rintro e w1 ⟨rfl, rfl⟩)
    go_ret
    exact ⟨rfl, rfl⟩
  | false =>
    rw [h1] at H1
    clear h1
    generalize decide (s.data.toList[0]? = some 9) = q at *
    go_enter Tryd.func29, Tryd.ntmps29
    go_wp2_with fail
    refine (H1.out _).mono ?_
    rintro e w1 ⟨rfl, rfl⟩
    go_wp2_with fail
    refine (H2.out _).mono ?_
    rintro e w2 ⟨rfl, rfl⟩
    go_wp2_with fail
    go_ret
    exact ⟨rfl, rfl⟩
set_option maxHeartbeats 1000000 in
set_option maxRecDepth 100000 in
theorem starts_any (s : ByteArray) (w : World) (hs : s.size ≤ 1000000) : Calls Tryd.prog 28 #[.string s] w (BoolPost (!blAt s 0) w) := by
  have H1 := Lib.hid (fun w => goesOn_any s w hs)
  generalize blAt s 0 = q at *
  go_enter Tryd.func28, Tryd.ntmps28
  go_wp2_with (go_at_call 29; refine (H1.out _).mono ?_; rintro e w1 ⟨rfl, rfl⟩)
  go_ret
  exact ⟨rfl, rfl⟩

/-- Where the first one is that a predicate holds of. -/
def idxP {α : Type} (p : α → Bool) : Nat → List α → Int
  | _, [] => -1
  | k, c :: r => if p c = true then k else idxP p (k + 1) r
set_option maxHeartbeats 1000000 in
set_option maxRecDepth 100000 in
theorem index_strs (ao : Option Addr) (cap : Nat) (l : List ByteArray) (g : FuncId) (p : ByteArray → Bool) (w : World) (hl : SlAt Rd.str (· < w.heap.size) w ao l) (hlen : l.length ≤ 100000) (hen : ∀ (args : Array Value) (w : World), (callFunc g args).run Tryd.prog w = .ok (.enter g args) w)
    (hp : ∀ c ∈ l, ∀ w', Below w.heap.size w w' → Calls Tryd.prog g #[.string c] w' (BelowPost (.bool (p c)) w')) :
    Calls Tryd.prog 27 #[.slice ao l.length cap, .func (.func g) #[] #[]] w (BelowPost (.int .i64 (idxP p 0 l)) w) := by
  have HP := Lib.hid hp
  clear hp
  go_enter Tryd.func27, Tryd.ntmps27
  go_wp2_with fail
  go_loopw [8] (fun v8 wr => ∃ k : Nat, k ≤ l.length ∧ v8 = .int .i64 k ∧ Hid (idxP p 0 l = idxP p k (l.drop k)) ∧ Below w.heap.size w wr) (fun v8 _ => l.length - (intOf v8).toNat)
  case atStart => exact ⟨0, by omega, rfl, Lib.hid rfl, Below.refl _ _⟩
  case round =>
    obtain ⟨k, hk, rfl, hix, hb⟩ := hrel
    by_cases hkl : k < l.length
    · obtain ⟨c, hcl⟩ := some_at hkl
      obtain ⟨bb, oo, rfl, hs1, hb1, hok, x0⟩ := str_get (hl.old hb) hcl
      have hkl2 : (k : Int) < (l.length : Int) := by omega
      have hlim : k ≤ 100000 := by omega
      have hi2 := hix.out
      rw [drop_at2 hcl, idxP] at hi2
      have hpc := HP.out c (List.mem_of_getElem? hcl) wr hb
      cases hpq : p c with
      | true =>
        rw [hpq] at hi2 hpc
        have HI := Lib.hid (show idxP p 0 l = k from hi2)
        have HC := Lib.hid hpc
        clear hi2 hpc hpq
        go_wp2_with fail
        refine HC.out.mono ?_
        rintro e w3 ⟨rfl, hb3⟩
        go_wp2_with fail
        go_ret
        exact ⟨by rw [HI.out]; rfl, chain hb hb3⟩
      | false =>
        rw [hpq] at hi2 hpc
        have HI := Lib.hid (show idxP p 0 l = idxP p (k + 1) (l.drop (k + 1)) from hi2)
        have HC := Lib.hid hpc
        clear hi2 hpc hpq
        go_wp2_with fail
        refine HC.out.mono ?_
        rintro e w3 ⟨rfl, hb3⟩
        go_wp2_with fail
        go_roundw
        case measure => simp [intOf]; omega
        case rel => exact ⟨k + 1, by omega, by go_num, HI, chain hb hb3⟩
    · obtain rfl : k = l.length := by omega
      have hi2 := hix.out
      rw [List.drop_length, idxP] at hi2
      have HI := Lib.hid hi2
      clear hi2
      go_wp2_with fail
      go_ret
      exact ⟨by rw [HI.out]; rfl, hb⟩
end Go.Proofs.YtclcahkgeaediaaDoor
