/- Decode, of the program and of the reference: each is decL. -/
import Derived.Test.YtjcglbopggcmdaaQuoRef
import Derived.BigQuiet
namespace Go.Proofs.Ytjcglbopggcmdaa
open Go.RowKit Lift
set_option linter.unusedSimpArgs false
set_option linter.unusedVariables false

/-- What a digit is worth. -/
def digN (n : Nat) : Int := if 48 ≤ n ∧ n ≤ 57 then n - 48 else if 65 ≤ n ∧ n ≤ 70 then n - 55 else if 97 ≤ n ∧ n ≤ 102 then n - 87 else -1
theorem digN_lt (n : Nat) : -1 ≤ digN n ∧ digN n < 16 := by unfold digN; (repeat' split) <;> omega

def DigPost (n : Nat) (w : World) (e : Ending) (w' : World) : Prop := e = .returned (.int .i64 (digN n)) ∧ w' = w
set_option maxHeartbeats 1000000 in
set_option maxRecDepth 100000 in
theorem digit_any (n : Nat) (hn : n < 256) (w : World) : Calls Try.prog 28 #[.int .u8 n] w (DigPost n w) := by
  go_enter Try.func28, Try.ntmps28
  go_wp2
  all_goals
    go_ret
    exact ⟨ret_int (by unfold digN; (repeat' split) <;> first | omega | (simp at *; omega)), rfl⟩
set_option maxHeartbeats 1000000 in
set_option maxRecDepth 100000 in
theorem half_any (n : Nat) (hn : n < 256) (w : World) : Calls Try.prog 24 #[.int .u8 n] w (DigPost n w) := by
  go_enter Try.func24, Try.ntmps24
  go_wp2
  all_goals
    go_ret
    exact ⟨ret_int (by unfold digN; (repeat' split) <;> first | omega | (simp at *; omega)), rfl⟩

/-- What stands behind a place: (byte, whole, error). -/
def escN (sz a b c : Nat) : Nat × Bool × Int :=
  if a ≠ 61 then (0, false, 3) else if sz = 1 then (0, false, 1) else if digN b < 0 ∧ b ≠ 13 then (0, false, 3) else if sz = 2 then (0, false, 1) else
  if b = 13 ∧ c = 10 then (0, false, 0) else if b = 13 ∨ digN c < 0 then (0, false, 3) else ((16 * digN b + digN c).toNat, true, 0)
def EscPost (r : Nat × Bool × Int) (w : World) (e : Ending) (w' : World) : Prop := e = .returned (.tuple #[.int .u8 r.1, .bool r.2.1, .int .i64 r.2.2]) ∧ Below w.heap.size w w'
theorem ret_esc {a a' : Int} {b b' : Bool} {c c' : Int} (h1 : a = a') (h2 : b = b') (h3 : c = c') : Ending.returned (.tuple #[.int .u8 a, .bool b, .int .i64 c]) = .returned (.tuple #[.int .u8 a', .bool b', .int .i64 c']) := by rw [h1, h2, h3]
theorem escPost_eq {w : World} {e : Ending} {w' : World} {a : Int} {b : Bool} {c : Int} (h : Below w.heap.size w w') (he : e = .returned (.tuple #[.int .u8 a, .bool b, .int .i64 c])) {r : Nat × Bool × Int} (h1 : a = r.1) (h2 : b = r.2.1) (h3 : c = r.2.2) : EscPost r w e w' := ⟨by rw [he, h1, h2, h3], h⟩
theorem soft1 : ((⟨#[61, 13, 10]⟩ : ByteArray)[1]'(by decide)).toNat = 13 := rfl
theorem soft2 : ((⟨#[61, 13, 10]⟩ : ByteArray)[2]'(by decide)).toNat = 10 := rfl
theorem or16n : ∀ a : Fin 16, ∀ b : Fin 16, bits .or .i64 (wrap64 ((a.val : Int) * 16)) (b.val : Int) % 256 = 16 * (a.val : Int) + b.val := by decide +kernel
theorem or16 {a b : Int} (h1 : 0 ≤ a) (h2 : a < 16) (h3 : 0 ≤ b) (h4 : b < 16) : bits .or .i64 (wrap64 (a * 16)) b % 256 = ((((16:Int) * a + b).toNat : Nat) : Int) := by
  obtain ⟨m, rfl⟩ := Int.eq_ofNat_of_zero_le h1
  obtain ⟨n, rfl⟩ := Int.eq_ofNat_of_zero_le h3
  rw [or16n ⟨m, by omega⟩ ⟨n, by omega⟩]
  simp only []
  omega
set_option maxHeartbeats 1000000 in
set_option maxRecDepth 100000 in
theorem escape_any (s : ByteArray) (hs : 0 < s.size) (hm : s.size ≤ 1000000) (w : World) : Calls Try.prog 23 #[.string s] w (EscPost (escN s.size (s.data.toList.getD 0 0).toNat (s.data.toList.getD 1 0).toNat (s.data.toList.getD 2 0).toNat) w) := by
  rw [getD_at s 0 (by omega)]
  by_cases h1 : s.size = 1
  · have hd : ((s.size : Int) == 1) = true := by simp; omega
    go_enter Try.func23, Try.ntmps23
    go_wp2
    all_goals
      go_ret3
      refine escPost_eq (Below.refl _ _) rfl ?_ ?_ ?_ <;> (unfold escN; ((repeat' split) <;> first | rfl | omega | (simp only [bne_iff_ne, beq_iff_eq, bne_eq_false_iff_eq, beq_eq_false_iff_ne, ne_eq, decide_eq_true_eq, decide_eq_false_iff_not, Bool.not_eq_true', Bool.not_eq_false'] at *; omega) | (simp at *; omega)))
  · rw [getD_at s 1 (by omega)]
    have hd : ((s.size : Int) == 1) = false := by simp; omega
    have i1 : (1 : Int) < s.size := by omega
    have hb := s[1].toNat_lt
    by_cases h2 : s.size = 2
    · have hd2 : ((s.size : Int) == 2) = true := by simp; omega
      go_enter Try.func23, Try.ntmps23
      go_wp2
      all_goals first
        | (go_ret3; refine escPost_eq (Below.refl _ _) rfl ?_ ?_ ?_ <;> (unfold escN; ((repeat' split) <;> first | rfl | omega | (simp only [bne_iff_ne, beq_iff_eq, bne_eq_false_iff_eq, beq_eq_false_iff_ne, ne_eq, decide_eq_true_eq, decide_eq_false_iff_not, Bool.not_eq_true', Bool.not_eq_false'] at *; omega) | (simp at *; omega))))
        | ((refine wp_region_quiet_lit (by kernel_rfl) (by kernel_rfl) ?_; (repeat (any_goals (first | go_big_quiet_step ((go_at_call 28; exact Calls.quiet_of_same (digit_any _ (by omega) _))) | quiet_step ((go_at_call 28; exact Calls.quiet_of_same (digit_any _ (by omega) _))) | (refine wpQuiet_step (fun K hK => ?_); go_simp; split <;> (refine hK _ ?_; clear hK K))))); all_goals (refine wpQuiet_nil ?_; intro _ hw'; obtain ⟨nq, hw''⟩ := hw'; subst hw''))
           go_wp2
           all_goals
            go_ret3; refine escPost_eq (by first | exact Below.refl _ _ | ((repeat (refine bN _ ?_)); first | exact Below.refl _ _ | go_grown)) rfl ?_ ?_ ?_ <;> ((try simp only [soft1] at *); unfold escN; ((repeat' split) <;> first | rfl | omega | (simp only [bne_iff_ne, beq_iff_eq, bne_eq_false_iff_eq, beq_eq_false_iff_ne, ne_eq, decide_eq_true_eq, decide_eq_false_iff_not, Bool.not_eq_true', Bool.not_eq_false'] at *; omega) | (simp at *; omega))))
    · rw [getD_at s 2 (by omega)]
      have hd2 : ((s.size : Int) == 2) = false := by simp; omega
      have i2 : (2 : Int) < s.size := by omega
      have hb2 := s[2].toNat_lt
      go_enter Try.func23, Try.ntmps23
      go_wp2
      all_goals first
        | (go_ret3; refine escPost_eq (Below.refl _ _) rfl ?_ ?_ ?_ <;> (unfold escN; ((repeat' split) <;> first | rfl | omega | (simp only [bne_iff_ne, beq_iff_eq, bne_eq_false_iff_eq, beq_eq_false_iff_ne, ne_eq, decide_eq_true_eq, decide_eq_false_iff_not, Bool.not_eq_true', Bool.not_eq_false'] at *; omega) | (simp at *; omega))))
        | ((refine wp_region_quiet_lit (by kernel_rfl) (by kernel_rfl) ?_; (repeat (any_goals (first | go_big_quiet_step ((go_at_call 28; exact Calls.quiet_of_same (digit_any _ (by omega) _))) | quiet_step ((go_at_call 28; exact Calls.quiet_of_same (digit_any _ (by omega) _))) | (refine wpQuiet_step (fun K hK => ?_); go_simp; split <;> (refine hK _ ?_; clear hK K))))); all_goals (refine wpQuiet_nil ?_; intro _ hw'; obtain ⟨nq, hw''⟩ := hw'; subst hw''))
           go_wp2_with fail
           all_goals try (go_ret3; refine escPost_eq (by first | exact Below.refl _ _ | ((repeat (refine bN _ ?_)); first | exact Below.refl _ _ | go_grown)) rfl ?_ ?_ ?_ <;> (first | rfl | ((try simp only [soft1] at *); unfold escN; ((repeat' split) <;> first | rfl | omega | (simp only [bne_iff_ne, beq_iff_eq, bne_eq_false_iff_eq, beq_eq_false_iff_ne, ne_eq, decide_eq_true_eq, decide_eq_false_iff_not, Bool.not_eq_true', Bool.not_eq_false'] at *; omega) | (simp at *; omega)))))
           all_goals (refine wp_region_quiet_lit (by kernel_rfl) (by kernel_rfl) ?_; (repeat (any_goals (first | go_big_quiet_step (fail) | quiet_step (fail) | (refine wpQuiet_step (fun K hK => ?_); go_simp; split <;> (refine hK _ ?_; clear hK K))))); all_goals (refine wpQuiet_nil ?_; intro _ hw'; obtain ⟨nq, hw''⟩ := hw'; subst hw''))
           all_goals go_wp2_with (go_at_call 28; refine (digit_any _ (by omega) _).mono ?_; rintro e w1 ⟨rfl, rfl⟩)
           all_goals first | (go_ret3; refine escPost_eq (by first | exact Below.refl _ _ | ((repeat (refine bN _ ?_)); first | exact Below.refl _ _ | go_grown)) rfl ?_ ?_ ?_ <;> (first | rfl | ((try simp only [soft1, soft2] at *); unfold escN; ((repeat' split) <;> first | rfl | omega | (simp only [bne_iff_ne, beq_iff_eq, bne_eq_false_iff_eq, beq_eq_false_iff_ne, ne_eq, decide_eq_true_eq, decide_eq_false_iff_not, Bool.not_eq_true', Bool.not_eq_false'] at *; omega) | (simp at *; omega))))) | skip
           · simp at *; omega
           · have q1 := (digN_lt s[1].toNat).2
             have q2 := (digN_lt s[2].toNat).2
             go_ret3; refine escPost_eq (by first | exact Below.refl _ _ | ((repeat (refine bN _ ?_)); first | exact Below.refl _ _ | go_grown)) rfl ?_ ?_ ?_ <;> ((try simp only [soft1, soft2] at *); unfold escN; (repeat' split)
               <;> (first | (exact or16 (by omega) q1 (by omega) q2) | rfl | omega | (exfalso; simp at *; omega))))

/-- What letters say: the bytes, or the refusal. -/
def decL (acc : List UInt8) : List UInt8 → List UInt8 × Int
  | [] => (acc, 0)
  | c :: t => if Shown c ∨ Blank c then decL (acc ++ [c]) t else if c.toNat ≠ 61 then ([], 3) else match t with
    | [] => ([], 1)
    | x :: t => if digN x.toNat < 0 ∧ x.toNat ≠ 13 then ([], 3) else match t with
      | [] => ([], 1)
      | y :: t => if x.toNat = 13 ∧ y.toNat = 10 then decL acc t else if x.toNat = 13 ∨ digN y.toNat < 0 then ([], 3) else decL (acc ++ [UInt8.ofNat (16 * digN x.toNat + digN y.toNat).toNat]) t

def DecPost (r : List UInt8 × Int) (w : World) (e : Ending) (w' : World) : Prop := e = .returned (.tuple #[.string ⟨r.1.toArray⟩, .int .i64 r.2]) ∧ Below w.heap.size w w'

theorem decL_plain {acc l : List UInt8} {c : UInt8} (h : Shown c ∨ Blank c) : decL acc (c :: l) = decL (acc ++ [c]) l := by rw [decL.eq_def]; exact if_pos h
/-- A mark's turn, told by escN. -/
theorem decL_esc {acc l : List UInt8} {c : UInt8} (h : ¬ (Shown c ∨ Blank c)) :
    (∀ {n b e}, escN (l.length + 1) c.toNat (l.getD 0 0).toNat (l.getD 1 0).toNat = (n, b, e) → (e ≠ 0 → decL acc (c :: l) = ([], e)) ∧ (e = 0 → 2 ≤ l.length ∧ (b = true → n < 256 ∧ decL acc (c :: l) = decL (acc ++ [UInt8.ofNat n]) (l.drop 2)) ∧ (b = false → decL acc (c :: l) = decL acc (l.drop 2)))) := by
  intro n b e he
  rw [decL.eq_def]
  simp only [if_neg h]
  unfold escN at he
  by_cases h1 : c.toNat = 61
  · rw [if_neg (by simpa using h1)] at he
    rw [if_neg (by simpa using h1)]
    match l with
    | [] => simp at he; obtain ⟨rfl, rfl, rfl⟩ := he; simp
    | [x] =>
      simp at he
      simp only []
      split
      · rename_i h2; rw [if_pos h2] at he; injection he with a1 a2; injection a2 with a2 a3; subst a1 a2 a3; simp
      · rename_i h2; rw [if_neg h2] at he; injection he with a1 a2; injection a2 with a2 a3; subst a1 a2 a3; simp
    | x :: y :: r =>
      simp only [List.getD_cons_zero, List.getD_cons_succ, List.length_cons] at he
      rw [if_neg (by omega)] at he
      have := digN_lt x.toNat
      have := digN_lt y.toNat
      simp only [List.drop_succ_cons, List.drop_zero, List.length_cons]
      split
      · rename_i h2; rw [if_pos h2] at he; injection he with a1 a2; injection a2 with a2 a3; subst a1 a2 a3; simp
      · rename_i h2; rw [if_neg h2, if_neg (by omega)] at he
        split
        · rename_i h3; rw [if_pos h3] at he; injection he with a1 a2; injection a2 with a2 a3; subst a1 a2 a3; simp
        · rename_i h3; rw [if_neg h3] at he
          split
          · rename_i h4; rw [if_pos h4] at he; injection he with a1 a2; injection a2 with a2 a3; subst a1 a2 a3; simp
          · rename_i h4; rw [if_neg h4] at he; injection he with a1 a2; injection a2 with a2 a3; subst a1 a2 a3; simp; omega
  · rw [if_pos h1] at he
    rw [if_pos h1]
    injection he with a1 a2; injection a2 with a2 a3; subst a1 a2 a3; simp
end Go.Proofs.Ytjcglbopggcmdaa
