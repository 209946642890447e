/- Names, values and parameters of a property: the program's functions and the document's. -/
import Derived.Test.YtcfbmfcobpfcjaaDoorPrName
namespace Go.Proofs.YtcfbmfcobpfcjaaDoor
open Go.RowKit Lift
set_option linter.unusedSimpArgs false
set_option linter.unusedVariables false

theorem first_at (s : ByteArray) (h : 0 < s.size) : s.data.toList.getD 0 0 = s[0]'h := by
  rw [List.getD_eq_getElem?_getD, Lib.data_getElem? s 0 h]; rfl
theorem any_not {p : UInt8 → Bool} (l : List UInt8) : (!l.any fun c => !p c) = l.all p := by
  induction l with
  | nil => rfl
  | cons a t ih => rw [List.any_cons, List.all_cons, ← ih]; cases p a <;> simp

set_option maxHeartbeats 1000000 in
set_option maxRecDepth 100000 in
theorem name_any (s : ByteArray) (w : World) : Calls Tryd.prog 54 #[.string s] w (BelowPost (.bool (isName s)) w) := by
  have he := empty_iff s
  by_cases h0 : s.size = 0
  · have HR := Lib.hid (show isName s = false by unfold isName fits; rw [decide_eq_false (by omega)]; rfl)
    rw [decide_eq_true h0] at he
    go_enter Tryd.func54, Tryd.ntmps54
    go_wp2_with fail
    go_ret
    exact ⟨by rw [HR.out]; rfl, Below.refl _ _⟩
  rw [decide_eq_false h0] at he
  by_cases h32 : 32 < s.size
  · have HR := Lib.hid (show isName s = false by unfold isName fits; rw [decide_eq_false (by omega)]; rfl)
    have h32z : (32 : Int) < (s.size : Int) := by omega
    go_enter Tryd.func54, Tryd.ntmps54
    go_wp2_with fail
    go_ret
    exact ⟨by rw [HR.out]; rfl, Below.refl _ _⟩
  have h32z : ¬ ((32 : Int) < (s.size : Int)) := by omega
  have hp : 0 < s.size := by omega
  have hpz : (0 : Int) < (s.size : Int) := by omega
  obtain ⟨x, hx⟩ : ∃ x, s[0]'hp = x := ⟨_, rfl⟩
  have hxn := x.toNat_lt
  have HF := Lib.hid (show fits s = true by unfold fits; exact decide_eq_true (by omega))
  have HX := Lib.hid (show s.data.toList.getD 0 0 = x by rw [first_at s hp, hx])
  cases hc : capB x.toNat with
  | false =>
    have HR := Lib.hid (show isName s = false by unfold isName; rw [HX.out, hc, Bool.and_false, Bool.false_and])
    have HC := Lib.hid hc
    clear hc
    go_enter Tryd.func54, Tryd.ntmps54
    go_wp2_with (go_at_call 80; refine (capital_any _ hxn _).mono ?_; rintro e w' ⟨rfl, rfl⟩; rw [HC.out])
    go_ret
    exact ⟨by rw [HR.out]; rfl, Below.refl _ _⟩
  | true =>
    have HR := Lib.hid (show isName s = s.data.toList.all (fun c => nameB c.toNat) by unfold isName; rw [HX.out, HF.out, hc]; rfl)
    have HA := Lib.hid (any_not (p := fun c => nameB c.toNat) s.data.toList)
    have HC := Lib.hid hc
    clear hc
    obtain ⟨W, cap, hcv, hby, hbw, hbz⟩ := conv_bytes (P := Tryd.prog) w 9 48 5 s (u := .string) Tryd.underlying9 Tryd.underlying48 Tryd.underlying5
    have HB := Lib.hid (contains_bytes w.heap.size s.size cap s.data.toList (by simp) 81 (fun c => !nameB c.toNat) W hby (by simp; omega) (fun args w => by kernel_rfl) (fun c w => notName_any _ c.toNat_lt w))
    generalize (s.data.toList.any fun c => !nameB c.toNat) = bb at HA HB
    clear hby
    go_enter Tryd.func54, Tryd.ntmps54
    go_wp2_with (go_at_call 80; refine (capital_any _ hxn _).mono ?_; rintro e w' ⟨rfl, rfl⟩; rw [HC.out])
    go_wp2_with fail
    refine HB.out.mono ?_
    rintro e w3 ⟨rfl, rfl⟩
    go_wp2_with fail
    go_ret
    exact ⟨by rw [HR.out, ← HA.out]; rfl, hbw⟩

set_option maxHeartbeats 1000000 in
set_option maxRecDepth 100000 in
theorem value_any (s : ByteArray) (w : World) : Calls Tryd.prog 82 #[.string s] w (BelowPost (.bool (isValue s)) w) := by
  have he := empty_iff s
  by_cases h0 : s.size = 0
  · have HR := Lib.hid (show isValue s = false by unfold isValue fits; rw [decide_eq_false (by omega)]; rfl)
    rw [decide_eq_true h0] at he
    go_enter Tryd.func82, Tryd.ntmps82
    go_wp2_with fail
    go_ret
    exact ⟨by rw [HR.out]; rfl, Below.refl _ _⟩
  rw [decide_eq_false h0] at he
  by_cases h32 : 32 < s.size
  · have HR := Lib.hid (show isValue s = false by unfold isValue fits; rw [decide_eq_false (by omega)]; rfl)
    have h32z : (32 : Int) < (s.size : Int) := by omega
    go_enter Tryd.func82, Tryd.ntmps82
    go_wp2_with fail
    go_ret
    exact ⟨by rw [HR.out]; rfl, Below.refl _ _⟩
  have h32z : ¬ ((32 : Int) < (s.size : Int)) := by omega
  have HR := Lib.hid (show isValue s = s.data.toList.all (fun c => valB c.toNat) by unfold isValue fits; rw [decide_eq_true (by omega)]; rfl)
  have HA := Lib.hid (any_not (p := fun c => valB c.toNat) s.data.toList)
  obtain ⟨W, cap, hcv, hby, hbw, hbz⟩ := conv_bytes (P := Tryd.prog) w 9 48 5 s (u := .string) Tryd.underlying9 Tryd.underlying48 Tryd.underlying5
  have HB := Lib.hid (contains_bytes w.heap.size s.size cap s.data.toList (by simp) 95 (fun c => !valB c.toNat) W hby (by simp; omega) (fun args w => by kernel_rfl) (fun c w => notVal_any _ c.toNat_lt w))
  generalize (s.data.toList.any fun c => !valB c.toNat) = bb at HA HB
  clear hby
  go_enter Tryd.func82, Tryd.ntmps82
  go_wp2_with fail
  refine HB.out.mono ?_
  rintro e w3 ⟨rfl, rfl⟩
  go_wp2_with fail
  go_ret
  exact ⟨by rw [HR.out, ← HA.out]; rfl, hbw⟩

theorem all_at2 {α : Type} {p : α → Bool} {l : List α} {k : Nat} {c : α} (h : l[k]? = some c) : (l.drop k).all p = (p c && (l.drop (k + 1)).all p) := by
  rw [drop_at2 h, List.all_cons]

set_option maxHeartbeats 1000000 in
set_option maxRecDepth 100000 in
theorem name_ref (s : ByteArray) (w : World) : Calls Tryd.prog 75 #[.string s] w (BelowPost (.bool (isName s)) w) := by
  have he := empty_iff s
  by_cases h0 : s.size = 0
  · have HR := Lib.hid (show isName s = false by unfold isName fits; rw [decide_eq_false (by omega)]; rfl)
    rw [decide_eq_true h0] at he
    go_enter Tryd.func75, Tryd.ntmps75
    go_wp2_with fail
    go_ret
    exact ⟨by rw [HR.out]; rfl, Below.refl _ _⟩
  rw [decide_eq_false h0] at he
  by_cases h32 : 32 < s.size
  · have HR := Lib.hid (show isName s = false by unfold isName fits; rw [decide_eq_false (by omega)]; rfl)
    have h32z : (32 : Int) < (s.size : Int) := by omega
    go_enter Tryd.func75, Tryd.ntmps75
    go_wp2_with fail
    go_ret
    exact ⟨by rw [HR.out]; rfl, Below.refl _ _⟩
  have h32z : ¬ ((32 : Int) < (s.size : Int)) := by omega
  have hp : 0 < s.size := by omega
  have hpz : (0 : Int) < (s.size : Int) := by omega
  obtain ⟨x, hx⟩ : ∃ x, s[0]'hp = x := ⟨_, rfl⟩
  have hxn := x.toNat_lt
  have HF := Lib.hid (show fits s = true by unfold fits; exact decide_eq_true (by omega))
  have HX := Lib.hid (show s.data.toList.getD 0 0 = x by rw [first_at s hp, hx])
  cases hc : capB x.toNat with
  | false =>
    have HR := Lib.hid (show isName s = false by unfold isName; rw [HX.out, hc, Bool.and_false, Bool.false_and])
    have HC := Lib.hid hc
    clear hc
    go_enter Tryd.func75, Tryd.ntmps75
    go_wp2_with (go_at_call 93; refine (letter_any _ hxn _).mono ?_; rintro e w' ⟨rfl, rfl⟩; rw [HC.out])
    go_ret
    exact ⟨by rw [HR.out]; rfl, Below.refl _ _⟩
  | true =>
    have HR := Lib.hid (show isName s = s.data.toList.all (fun c => nameB c.toNat) by unfold isName; rw [HX.out, HF.out, hc]; rfl)
    have HC := Lib.hid hc
    clear hc
    go_enter Tryd.func75, Tryd.ntmps75
    go_wp2_with (go_at_call 93; refine (letter_any _ hxn _).mono ?_; rintro e w' ⟨rfl, rfl⟩; rw [HC.out])
    go_wp2_with fail
    clear hx hxn
    go_loopw [3] (fun v3 wr => ∃ k : Nat, k ≤ s.size ∧ v3 = .int .i64 k ∧ Hid (s.data.toList.all (fun c => nameB c.toNat) = (s.data.toList.drop k).all (fun c => nameB c.toNat)) ∧ wr = w) (fun v3 _ => s.size - (intOf v3).toNat)
    case atStart => exact ⟨0, by omega, rfl, Lib.hid rfl, rfl⟩
    case round =>
      obtain ⟨k, hk, rfl, hix, rfl⟩ := hrel
      by_cases hkl : k < s.size
      · have hk2 : (k : Int) < (s.size : Int) := by omega
        obtain ⟨y, hy⟩ : ∃ y, s[k]'hkl = y := ⟨_, rfl⟩
        have hyn := y.toNat_lt
        have hyl : s.data.toList[k]? = some y := by rw [← hy]; exact Lib.data_getElem? s k hkl
        have hi2 := hix.out
        rw [all_at2 hyl] at hi2
        cases hb : nameB y.toNat with
        | true =>
          rw [hb, Bool.true_and] at hi2
          have HI := Lib.hid hi2
          clear hi2 hyl
          go_wp2_with (go_at_call 93; refine (letter_any _ hyn _).mono ?_; rintro e w' ⟨rfl, rfl⟩)
          all_goals first
            | (exfalso; simp [nameB, capB] at *; omega)
            | (go_roundw
               case measure => simp [intOf]; omega
               case rel => exact ⟨k + 1, by omega, by go_num, HI, by first | rfl | trivial⟩)
        | false =>
          rw [hb, Bool.false_and] at hi2
          have HI := Lib.hid hi2
          clear hi2 hyl
          go_wp2_with (go_at_call 93; refine (letter_any _ hyn _).mono ?_; rintro e w' ⟨rfl, rfl⟩)
          all_goals first
            | (exfalso; simp [nameB, capB] at *; omega)
            | (go_ret
               exact ⟨by rw [HR.out, HI.out]; rfl, Below.refl _ _⟩)
      · obtain rfl : k = s.size := by omega
        have HI := Lib.hid (show s.data.toList.all (fun c => nameB c.toNat) = true by rw [hix.out, List.drop_eq_nil_of_le (by simp)]; rfl)
        clear hix
        go_wp2_with fail
        go_ret
        exact ⟨by rw [HR.out, HI.out]; rfl, Below.refl _ _⟩
set_option maxHeartbeats 1000000 in
set_option maxRecDepth 100000 in
theorem value_ref (s : ByteArray) (w : World) : Calls Tryd.prog 94 #[.string s] w (BelowPost (.bool (isValue s)) w) := by
  have he := empty_iff s
  by_cases h0 : s.size = 0
  · have HR := Lib.hid (show isValue s = false by unfold isValue fits; rw [decide_eq_false (by omega)]; rfl)
    rw [decide_eq_true h0] at he
    go_enter Tryd.func94, Tryd.ntmps94
    go_wp2_with fail
    go_ret
    exact ⟨by rw [HR.out]; rfl, Below.refl _ _⟩
  rw [decide_eq_false h0] at he
  by_cases h32 : 32 < s.size
  · have HR := Lib.hid (show isValue s = false by unfold isValue fits; rw [decide_eq_false (by omega)]; rfl)
    have h32z : (32 : Int) < (s.size : Int) := by omega
    go_enter Tryd.func94, Tryd.ntmps94
    go_wp2_with fail
    go_ret
    exact ⟨by rw [HR.out]; rfl, Below.refl _ _⟩
  have h32z : ¬ ((32 : Int) < (s.size : Int)) := by omega
  have HR := Lib.hid (show isValue s = s.data.toList.all (fun c => valB c.toNat) by unfold isValue fits; rw [decide_eq_true (by omega)]; rfl)
  go_enter Tryd.func94, Tryd.ntmps94
  go_wp2_with fail
  go_wp2_with fail
  go_loopw [3] (fun v3 wr => ∃ k : Nat, k ≤ s.size ∧ v3 = .int .i64 k ∧ Hid (s.data.toList.all (fun c => valB c.toNat) = (s.data.toList.drop k).all (fun c => valB c.toNat)) ∧ wr = w) (fun v3 _ => s.size - (intOf v3).toNat)
  case atStart => exact ⟨0, by omega, rfl, Lib.hid rfl, rfl⟩
  case round =>
    obtain ⟨k, hk, rfl, hix, rfl⟩ := hrel
    by_cases hkl : k < s.size
    · have hk2 : (k : Int) < (s.size : Int) := by omega
      obtain ⟨y, hy⟩ : ∃ y, s[k]'hkl = y := ⟨_, rfl⟩
      have hyn := y.toNat_lt
      have hyl : s.data.toList[k]? = some y := by rw [← hy]; exact Lib.data_getElem? s k hkl
      have hi2 := hix.out
      rw [all_at2 hyl] at hi2
      cases hb : valB y.toNat with
      | true =>
        rw [hb, Bool.true_and] at hi2
        have HI := Lib.hid hi2
        clear hi2 hyl
        go_wp2_with fail
        all_goals first
          | (exfalso; simp [valB] at *; omega)
          | (go_roundw
             case measure => simp [intOf]; omega
             case rel => exact ⟨k + 1, by omega, by go_num, HI, by first | rfl | trivial⟩)
      | false =>
        rw [hb, Bool.false_and] at hi2
        have HI := Lib.hid hi2
        clear hi2 hyl
        go_wp2_with fail
        all_goals first
          | (exfalso; simp [valB] at *; omega)
          | (go_ret
             exact ⟨by rw [HR.out, HI.out]; rfl, Below.refl _ _⟩)
    · obtain rfl : k = s.size := by omega
      have HI := Lib.hid (show s.data.toList.all (fun c => valB c.toNat) = true by rw [hix.out, List.drop_eq_nil_of_le (by simp)]; rfl)
      clear hix
      go_wp2_with fail
      go_ret
      exact ⟨by rw [HR.out, HI.out]; rfl, Below.refl _ _⟩

set_option maxHeartbeats 1000000 in
set_option maxRecDepth 100000 in
theorem right_any (c : Par) (w : World) : Calls Tryd.prog 56 #[encPar c] w (BelowPost (.bool (isPar c)) w) := by
  unfold encPar
  have he := empty_iff c.1
  have hb1 : Below w.heap.size w (w.alloc (Obj.cells #[Value.string c.1, Value.string c.2] 58)) := (Below.refl _ _).alloc (Nat.le_refl _) _
  cases h0 : decide (c.1.size = 0) with
  | true =>
    have HR := Lib.hid (show isPar c = isValue c.2 by unfold isPar; rw [h0]; rfl)
    rw [h0] at he
    clear h0
    go_enter Tryd.func56, Tryd.ntmps56
    go_wp2_with fail
    refine (value_any _ _).mono ?_
    rintro e w3 ⟨rfl, hb3⟩
    go_wp2_with fail
    go_ret
    exact ⟨by rw [HR.out]; rfl, chain hb1 hb3⟩
  | false =>
    rw [h0] at he
    cases hn : isName c.1 with
    | false =>
      have HR := Lib.hid (show isPar c = false by unfold isPar; rw [h0, hn]; rfl)
      have HN := Lib.hid hn
      clear h0 hn
      go_enter Tryd.func56, Tryd.ntmps56
      go_wp2_with fail
      refine (name_any _ _).mono ?_
      rintro e w3 ⟨rfl, hb3⟩
      rw [HN.out]
      go_wp2_with fail
      go_ret
      exact ⟨by rw [HR.out]; rfl, chain hb1 hb3⟩
    | true =>
      have HR := Lib.hid (show isPar c = isValue c.2 by unfold isPar; rw [h0, hn]; rfl)
      have HN := Lib.hid hn
      clear h0 hn
      go_enter Tryd.func56, Tryd.ntmps56
      go_wp2_with fail
      refine (name_any _ _).mono ?_
      rintro e w3 ⟨rfl, hb3⟩
      rw [HN.out]
      obtain ⟨hc3, hf3⟩ := bcell hb3
      have hz3 := bsize hb3
      simp only [World.size_alloc] at hc3 hf3 hz3
      have x0 : w3.cell? ⟨w.heap.size, 0, none⟩ = some (.string c.1) := by rw [hc3 _ _ (by omega)]; first | (simp [go_sem]; done) | (simp [go_sem]; rfl)
      have x1 : w3.cell? ⟨w.heap.size, 1, none⟩ = some (.string c.2) := by rw [hc3 _ _ (by omega)]; first | (simp [go_sem]; done) | (simp [go_sem]; rfl)
      clear hc3 hf3
      go_wp2_with fail
      refine (value_any _ _).mono ?_
      rintro e w4 ⟨rfl, hb4⟩
      go_wp2_with fail
      go_ret
      exact ⟨by rw [HR.out]; rfl, chain (chain hb1 hb3) hb4⟩
set_option maxHeartbeats 1000000 in
set_option maxRecDepth 100000 in
theorem param_okref (c : Par) (w : World) : Calls Tryd.prog 76 #[encPar c] w (BelowPost (.bool (isPar c)) w) := by
  unfold encPar
  have he := empty_iff c.1
  have hb1 : Below w.heap.size w (w.alloc (Obj.cells #[Value.string c.1, Value.string c.2] 58)) := (Below.refl _ _).alloc (Nat.le_refl _) _
  cases h0 : decide (c.1.size = 0) with
  | true =>
    have HR := Lib.hid (show isPar c = isValue c.2 by unfold isPar; rw [h0]; rfl)
    rw [h0] at he
    clear h0
    go_enter Tryd.func76, Tryd.ntmps76
    go_wp2_with fail
    refine (value_ref _ _).mono ?_
    rintro e w3 ⟨rfl, hb3⟩
    go_wp2_with fail
    go_ret
    exact ⟨by rw [HR.out]; rfl, chain hb1 hb3⟩
  | false =>
    rw [h0] at he
    cases hn : isName c.1 with
    | false =>
      have HR := Lib.hid (show isPar c = false by unfold isPar; rw [h0, hn]; rfl)
      have HN := Lib.hid hn
      clear h0 hn
      go_enter Tryd.func76, Tryd.ntmps76
      go_wp2_with fail
      refine (name_ref _ _).mono ?_
      rintro e w3 ⟨rfl, hb3⟩
      rw [HN.out]
      go_wp2_with fail
      go_ret
      exact ⟨by rw [HR.out]; rfl, chain hb1 hb3⟩
    | true =>
      have HR := Lib.hid (show isPar c = isValue c.2 by unfold isPar; rw [h0, hn]; rfl)
      have HN := Lib.hid hn
      clear h0 hn
      go_enter Tryd.func76, Tryd.ntmps76
      go_wp2_with fail
      refine (name_ref _ _).mono ?_
      rintro e w3 ⟨rfl, hb3⟩
      rw [HN.out]
      obtain ⟨hc3, hf3⟩ := bcell hb3
      have hz3 := bsize hb3
      simp only [World.size_alloc] at hc3 hf3 hz3
      have x0 : w3.cell? ⟨w.heap.size, 0, none⟩ = some (.string c.1) := by rw [hc3 _ _ (by omega)]; first | (simp [go_sem]; done) | (simp [go_sem]; rfl)
      have x1 : w3.cell? ⟨w.heap.size, 1, none⟩ = some (.string c.2) := by rw [hc3 _ _ (by omega)]; first | (simp [go_sem]; done) | (simp [go_sem]; rfl)
      clear hc3 hf3
      go_wp2_with fail
      refine (value_ref _ _).mono ?_
      rintro e w4 ⟨rfl, hb4⟩
      go_wp2_with fail
      go_ret
      exact ⟨by rw [HR.out]; rfl, chain (chain hb1 hb3) hb4⟩

set_option maxHeartbeats 1000000 in
set_option maxRecDepth 100000 in
theorem wrong_any (c : Par) (w : World) : Calls Tryd.prog 55 #[encPar c] w (BelowPost (.bool (!isPar c)) w) := by
  have HC := Lib.hid (right_any c)
  unfold encPar at *
  have hb1 : Below w.heap.size w (w.alloc (Obj.cells #[Value.string c.1, Value.string c.2] 58)) := (Below.refl _ _).alloc (Nat.le_refl _) _
  go_enter Tryd.func55, Tryd.ntmps55
  go_wp2_with fail
  refine (HC.out _).mono ?_
  rintro e w3 ⟨rfl, hb3⟩
  go_wp2_with fail
  go_ret
  exact ⟨rfl, chain hb1 hb3⟩
end Go.Proofs.YtcfbmfcobpfcjaaDoor
