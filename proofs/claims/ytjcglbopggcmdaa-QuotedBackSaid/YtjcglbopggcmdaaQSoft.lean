/- QuotedSoft holds: every text is laid in lines as the reference does, or refused with its error. No condition. -/
import Derived.Test.YtjcglbopggcmdaaSoftRef
namespace Go.Proofs.Ytjcglbopggcmdaa
open Go.ChangeShapes Go.WideShapes Go.ChangeAt Go.RowKit Lift
open Go.ChangeMaps (open_string shut_string)
set_option linter.unusedSimpArgs false
set_option linter.unusedVariables false

theorem decL_len : ∀ (n : Nat) (acc l : List UInt8), l.length ≤ n → (decL acc l).1.length ≤ acc.length + l.length := by
  intro n
  induction n with
  | zero => intro acc l h; obtain rfl := List.eq_nil_of_length_eq_zero (by omega : l.length = 0); simp [decL]
  | succ n ih =>
    intro acc l h
    match l with
    | [] => simp [decL]
    | [c] => rw [decL.eq_def]; simp only []; (repeat' split) <;> simp [decL]
    | [c, x] =>
      rw [decL.eq_def]; simp only []
      split
      · refine Nat.le_trans (ih _ _ (by simp at *; omega)) (by simp)
      · (repeat' split) <;> simp
    | c :: x :: y :: t =>
      simp only [List.length_cons] at h
      rw [decL.eq_def]; simp only []
      split
      · refine Nat.le_trans (ih _ _ (by simp; omega)) (by simp; omega)
      · (repeat' split) <;> first | (simp; done) | (refine Nat.le_trans (ih _ _ (by omega)) (by simp; omega))

theorem dig_ne (n : Nat) (h : n < 16) : dig n ≠ 61 := by revert n; decide
theorem encOne_two (c : UInt8) (r t : List UInt8) (h : NoTwo t) : NoTwo (encOne c r ++ t) := by
  unfold encOne
  split
  · rename_i hc
    intro j hj
    cases j with
    | zero =>
      simp at hj
      exfalso
      subst hj
      revert hc; unfold Shown Blank; simp
    | succ j => simp at hj ⊢; exact h j (by simpa [List.getD_eq_getElem?_getD] using hj)
  · have h1 := dig_ne (c.toNat / 16) (by have := c.toNat_lt; omega)
    have h2 := dig_ne (c.toNat % 16) (by omega)
    intro j hj
    match j with
    | 0 => simpa [hexOf] using h1
    | 1 => simp [hexOf] at hj; exact absurd hj h1
    | 2 => simp [hexOf] at hj; exact absurd hj h2
    | j + 3 => simp [hexOf] at hj ⊢; exact h j (by simpa [List.getD_eq_getElem?_getD] using hj)
theorem encL_two : ∀ l : List UInt8, NoTwo (encL l)
  | [] => by intro j; simp [encL]
  | c :: r => by rw [encL]; exact encOne_two c r _ (encL_two r)

def softR (l : List UInt8) (n : Int) : List UInt8 × Int :=
  if n < 4 ∨ 200 < n then ([], 2) else if (decL [] l).2 ≠ 0 ∨ encL (decL [] l).1 ≠ l then ([], 3) else (softL n.toNat l, 0)

theorem toList_ne {a : List UInt8} {b : ByteArray} (h : a ≠ b.data.toList) : (a == b.toList) = false := by
  rw [byte_list]; simpa using h

set_option maxHeartbeats 1000000 in
set_option maxRecDepth 100000 in
theorem soft_any (s0 : ByteArray) (n : Int) (w : World) (hs : s0.size ≤ 300000) : Calls Try.prog 12 #[.string s0, .int .i64 n] w (DecPost (softR s0.data.toList n) w) := by
  unfold softR
  by_cases h1 : n < 4 ∨ 200 < n
  · rw [if_pos h1]
    have hd : decide (n < 4) = true ∨ (decide (n < 4) = false ∧ decide (200 < n) = true) := by simp; omega
    rcases hd with hd | ⟨hd, hd2⟩
    all_goals
      go_enter Try.func12, Try.ntmps12
      go_wp2_with fail
      go_ret2
      exact ⟨rfl, Below.refl _ _⟩
  · rw [if_neg h1]
    obtain ⟨q, rfl⟩ : ∃ q : Nat, n = (q : Int) + 1 := ⟨(n - 1).toNat, by omega⟩
    have hdl := decL_len _ [] s0.data.toList (Nat.le_refl _)
    have hdec := fun w => decode_any s0 w (by omega)
    obtain ⟨⟨d, e⟩, hde⟩ : ∃ r, decL [] s0.data.toList = r := ⟨_, rfl⟩
    rw [hde] at hdl hdec ⊢
    have hz : s0.data.toList.length = s0.size := by simp
    rw [hz] at hdl
    simp only [List.length_nil] at hdl
    have henc := fun w => encode_any ⟨d.toArray⟩ w (by show d.toArray.size ≤ _; simp; omega)
    simp only at henc ⊢
    have hd1 : decide ((q:Int) + 1 < 4) = false := by simp; omega
    have hd2 : decide (200 < (q:Int) + 1) = false := by simp; omega
    by_cases h2 : e ≠ 0 ∨ encL d ≠ s0.data.toList
    · rw [if_pos h2]
      have HD := Lib.hid hdec; have HE := Lib.hid henc
      clear hdec henc hde hdl hz
      by_cases h3 : e = 0
      · subst h3
        have h4 : encL d ≠ s0.data.toList := by simpa using h2
        have h5 := toList_ne h4
        clear h2
        go_enter Try.func12, Try.ntmps12
        go_wp2_with fail
        refine (HD.out _).mono ?_
        rintro e w1 ⟨rfl, hb1⟩
        go_wp2_with fail
        refine (HE.out _).mono ?_
        rintro e w2 ⟨rfl, hb2⟩
        go_wp2_with fail
        go_ret2
        exact ⟨rfl, chain hb1 hb2⟩
      · have h5 : (e != 0) = true := by simpa using h3
        clear h2
        go_enter Try.func12, Try.ntmps12
        go_wp2_with fail
        refine (HD.out _).mono ?_
        rintro e w1 ⟨rfl, hb1⟩
        go_wp2_with fail
        go_ret2
        exact ⟨rfl, hb1⟩
    · rw [if_neg h2]
      obtain rfl : e = 0 := by omega
      have h3 : encL d = s0.data.toList := by apply Classical.byContradiction; intro h; exact h2 (.inr h)
      rw [h3] at henc
      exact soft_loop s0 q (by omega) (by omega) w (by omega) ⟨d.toArray⟩ hdec henc (h3 ▸ encL_two d)

set_option maxHeartbeats 1000000 in
set_option maxRecDepth 100000 in
theorem soft_r (s0 : ByteArray) (n : Int) (w : World) (hs : s0.size ≤ 300000) : Calls Try.prog 13 #[.string s0, .int .i64 n] w (DecPost (softR s0.data.toList n) w) := by
  unfold softR
  by_cases h1 : n < 4 ∨ 200 < n
  · rw [if_pos h1]
    have hd : decide (n < 4) = true ∨ (decide (n < 4) = false ∧ decide (200 < n) = true) := by simp; omega
    rcases hd with hd | ⟨hd, hd2⟩
    all_goals
      go_enter Try.func13, Try.ntmps13
      go_wp2_with fail
      go_ret2
      exact ⟨rfl, Below.refl _ _⟩
  · rw [if_neg h1]
    obtain ⟨q, rfl⟩ : ∃ q : Nat, n = (q : Int) + 1 := ⟨(n - 1).toNat, by omega⟩
    have hdl := decL_len _ [] s0.data.toList (Nat.le_refl _)
    have hdec := fun w => decode_ref s0 w (by omega)
    obtain ⟨⟨d, e⟩, hde⟩ : ∃ r, decL [] s0.data.toList = r := ⟨_, rfl⟩
    rw [hde] at hdl hdec ⊢
    have hz : s0.data.toList.length = s0.size := by simp
    rw [hz] at hdl
    simp only [List.length_nil] at hdl
    have henc := fun w => encode_ref ⟨d.toArray⟩ w (by show d.toArray.size ≤ _; simp; omega)
    simp only at henc ⊢
    have hd1 : decide ((q:Int) + 1 < 4) = false := by simp; omega
    have hd2 : decide (200 < (q:Int) + 1) = false := by simp; omega
    by_cases h2 : e ≠ 0 ∨ encL d ≠ s0.data.toList
    · rw [if_pos h2]
      have HD := Lib.hid hdec; have HE := Lib.hid henc
      clear hdec henc hde hdl hz
      by_cases h3 : e = 0
      · subst h3
        have h4 : encL d ≠ s0.data.toList := by simpa using h2
        have h5 := toList_ne h4
        clear h2
        go_enter Try.func13, Try.ntmps13
        go_wp2_with fail
        refine (HD.out _).mono ?_
        rintro e w1 ⟨rfl, hb1⟩
        go_wp2_with fail
        refine (HE.out _).mono ?_
        rintro e w2 ⟨rfl, hb2⟩
        go_wp2_with fail
        go_ret2
        exact ⟨rfl, chain hb1 hb2⟩
      · have h5 : (e != 0) = true := by simpa using h3
        clear h2
        go_enter Try.func13, Try.ntmps13
        go_wp2_with fail
        refine (HD.out _).mono ?_
        rintro e w1 ⟨rfl, hb1⟩
        go_wp2_with fail
        go_ret2
        exact ⟨rfl, hb1⟩
    · rw [if_neg h2]
      obtain rfl : e = 0 := by omega
      have h3 : encL d = s0.data.toList := by apply Classical.byContradiction; intro h; exact h2 (.inr h)
      rw [h3] at henc
      exact soft_ref s0 q (by omega) (by omega) w (by omega) ⟨d.toArray⟩ hdec henc (h3 ▸ encL_two d)

theorem prog_len (s : ByteArray) : s.data.toList.length = s.size := by simp
set_option maxHeartbeats 1000000 in
set_option maxRecDepth 100000 in
theorem law_soft (s : ByteArray) (n : Int) (hwf : (Lit.int .i64 n).wf = true) (w : World) : Calls Try.prog 5 #[.string s, .int .i64 n] w (TruePost w) := by
  by_cases hs : s.size ≤ 1500
  · have hd : decide ((1500:Int) < (s.size : Int)) = false := by simp; omega
    obtain ⟨x, e, h1, h2⟩ : ∃ x e, (∀ w, Calls Try.prog 12 #[.string s, .int .i64 n] w (fun r w' => r = .returned (.tuple #[.string x, .int .i64 e]) ∧ Below w.heap.size w w')) ∧ (∀ w, Calls Try.prog 13 #[.string s, .int .i64 n] w (fun r w' => r = .returned (.tuple #[.string x, .int .i64 e]) ∧ Below w.heap.size w w')) :=
      ⟨_, _, fun w => soft_any s n w (by omega), fun w => soft_r s n w (by omega)⟩
    have H1 := Lib.hid h1; have H2 := Lib.hid h2
    clear h1 h2
    go_enter Try.func5, Try.ntmps5
    go_wp2_with fail
    refine (H1.out _).mono ?_
    rintro e w1 ⟨rfl, hb1⟩
    go_wp2_with fail
    refine (H2.out _).mono ?_
    rintro e w2 ⟨rfl, hb2⟩
    go_wp2_with fail
    go_ret
    exact ⟨rfl, chain hb1 hb2⟩
  · have hd : decide ((1500:Int) < (s.size : Int)) = true := by simp; omega
    go_enter Try.func5, Try.ntmps5
    go_wp2_with fail
    go_ret
    exact ⟨rfl, Below.refl _ _⟩

theorem soft_own : ownKnob Try.prog.godebug = none := by kernel_rfl
theorem soft_laid : laidOutB Try.prog = true := by kernel_rfl

set_option maxRecDepth 100000 in
theorem soft_lifted (os : Os) (started : os.Started) (H : Type) (enc : TypeId × Value → H) :
    ReturnsInHanded {} Try.checked os 5 .any (Rows.quotedSoftSpec.pre6 enc Try.prog Try.f5 Rows.quotedSoftRow.domain false) (Rows.quotedSoftSpec.post enc Try.prog Try.f5 false true false false) := by
  refine law_lifted (C := Try.checked) 4 soft_own started (by kernel_rfl) Try.func5 soft_laid rfl (by kernel_rfl) Try.underlying4 (by kernel_rfl)
    (fun ds h => by match ds, h with | [_, _], _ => rfl)
    (ChangeSpec.witness6 (enc := enc) (C := Try.checked) false ⟨#[], #[.string ByteArray.empty, .int .i64 0], []⟩ 8 (by kernel_rfl) (by kernel_rfl) (by kernel_rfl) (by kernel_rfl)) ?_
  intro W base args ds p hval0 hA0 hfz
  have hval : ∀ (j : Nat) t v, Try.f5.params[j]? = some t → args[j]? = some v → Value.okWide Try.prog W .any base t v := hval0
  have hA : DataW.TrodAll enc Try.prog W 0 (fun _ => true) true Try.f5.params.toList args.toList ds p := hA0
  rw [Try.params5] at hA hval
  obtain ⟨v0, vs0, d0, ds0, p0, q0, hargs, rfl, rfl, h0, r0⟩ := trodAll_cons hA
  obtain ⟨v1, vs1, d1, ds1, p1, q1, rfl, rfl, rfl, h1, r1⟩ := trodAll_cons r0
  obtain ⟨rfl, rfl, rfl⟩ := trodAll_nil r1
  obtain rfl : args = #[v0, v1] := by cases args; simp_all
  obtain ⟨a0, rfl, _, _, _⟩ := open_string Try.underlying9 (hval 0 9 v0 rfl rfl) h0
  obtain ⟨a1, rfl, _, _, w1⟩ := open_int Try.underlying3 (hval 1 3 v1 rfl rfl) h1
  exact law_soft a0 a1 w1 W

theorem soft_holds : Rows.QuotedSoftSaid :=
  OpenClaim.holds_of_wide 5 Try.f5 rfl rfl rfl rfl rfl rfl rfl ⟨rfl, rfl, rfl, rfl, rfl⟩ rfl rfl rfl rfl rfl (by kernel_rfl) Try.func5 (by kernel_rfl)
    (of_decide_eq_true (by kernel_rfl)) (by unfold Func.isWrapper; rw [if_neg (of_decide_eq_false (by kernel_rfl))]; exact ⟨rfl, rfl⟩)
    (fun os started H enc _ => soft_lifted os started H enc)

end Go.Proofs.Ytjcglbopggcmdaa
