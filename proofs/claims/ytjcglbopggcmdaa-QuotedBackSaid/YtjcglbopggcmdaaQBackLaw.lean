/- What letters say is what was written, whole or in lines (no program in sight). -/
import Derived.Test.YtjcglbopggcmdaaQSoft
namespace Go.Proofs.Ytjcglbopggcmdaa
open Go.RowKit Lift
set_option linter.unusedSimpArgs false
set_option linter.unusedVariables false

/-- The letters l say d. -/
inductive Enc : List UInt8 → List UInt8 → Prop
  | nil : Enc [] []
  | one {c : UInt8} {l d : List UInt8} : (Shown c ∨ Blank c) → Enc l d → Enc (c :: l) (c :: d)
  | esc {x y q : UInt8} {l d : List UInt8} : 0 ≤ digN x.toNat → 0 ≤ digN y.toNat → (q.toNat : Int) = 16 * digN x.toNat + digN y.toNat → Enc l d → Enc (61 :: x :: y :: l) (q :: d)

theorem digN_pos {n : Nat} (h : 0 ≤ digN n) : n ≠ 61 ∧ n ≠ 13 ∧ 48 ≤ n ∧ n ≤ 102 := by
  unfold digN at h; (repeat' split at h) <;> omega
theorem plain_byte {c : UInt8} (h : Shown c ∨ Blank c) : c ≠ 61 ∧ (c.toNat = 9 ∨ 32 ≤ c.toNat ∧ c.toNat ≤ 126) := by
  refine ⟨?_, ?_⟩
  · rintro rfl; revert h; decide
  · unfold Shown Blank at h; omega
theorem dig_pos {x : UInt8} (h : 0 ≤ digN x.toNat) : x ≠ 61 ∧ 32 ≤ x.toNat ∧ x.toNat ≤ 126 := by
  have := digN_pos h
  refine ⟨?_, by omega, by omega⟩
  rintro rfl; exact this.1 rfl

/-- Letters are read to what they say, whatever stands behind. -/
theorem Enc.dec {l d : List UInt8} (h : Enc l d) : ∀ acc r, decL acc (l ++ r) = decL (acc ++ d) r := by
  induction h with
  | nil => simp
  | one hc _ ih => intro acc r; rw [List.cons_append, decL_plain hc, ih]; simp
  | esc hx hy hq _ ih =>
    intro acc r
    rw [List.cons_append, List.cons_append, List.cons_append, decL_7 (digN_pos hx).2.1 hx hy hq, ih]; simp

/-- Where one may cut. -/
def Cut (c : Nat) (l : List UInt8) : Prop := ∀ j, j < c → c ≤ j + 2 → l.getD j 0 ≠ 61
theorem Enc.cut {l d : List UInt8} (h : Enc l d) : ∀ c, c ≤ l.length → Cut c l → ∃ d1 d2, d = d1 ++ d2 ∧ Enc (l.take c) d1 ∧ Enc (l.drop c) d2 := by
  induction h with
  | nil => intro c _ _; exact ⟨[], [], rfl, by simpa using Enc.nil, by simpa using Enc.nil⟩
  | @one a l d hc hl ih =>
    intro c hle hcut
    match c with
    | 0 => exact ⟨[], _, rfl, Enc.nil, Enc.one hc hl⟩
    | c + 1 =>
      obtain ⟨d1, d2, rfl, h1, h2⟩ := ih c (by simpa using hle) (fun j h1 h2 => by simpa using hcut (j + 1) (by omega) (by omega))
      exact ⟨_ :: d1, d2, rfl, by simpa using Enc.one hc h1, by simpa using h2⟩
  | @esc x y q l d hx hy hq hl ih =>
    intro c hle hcut
    match c with
    | 0 => exact ⟨[], _, rfl, Enc.nil, Enc.esc hx hy hq hl⟩
    | 1 => exact absurd rfl (hcut 0 (by omega) (by omega))
    | 2 => exact absurd rfl (hcut 0 (by omega) (by omega))
    | c + 3 =>
      obtain ⟨d1, d2, rfl, h1, h2⟩ := ih c (by simpa using hle) (fun j h1 h2 => by simpa using hcut (j + 3) (by omega) (by omega))
      exact ⟨_ :: d1, d2, rfl, by simpa using Enc.esc hx hy hq h1, by simpa using h2⟩
theorem Enc.three {l d : List UInt8} (h : Enc l d) : ∀ j, l.getD j 0 = 61 → l.getD (j + 1) 0 ≠ 61 ∧ l.getD (j + 2) 0 ≠ 61 := by
  induction h with
  | nil => intro j; simp
  | one hc _ ih =>
    intro j hj
    match j with
    | 0 => exact absurd (by simpa using hj) (plain_byte hc).1
    | j + 1 => simpa using ih j (by simpa using hj)
  | esc hx hy hq _ ih =>
    intro j hj
    match j with
    | 0 => exact ⟨by simpa using (dig_pos hx).1, by simpa using (dig_pos hy).1⟩
    | 1 => exact absurd (by simpa using hj) (dig_pos hx).1
    | 2 => exact absurd (by simpa using hj) (dig_pos hy).1
    | j + 3 => simpa using ih j (by simpa using hj)
theorem cutAt_cut {m : Nat} {l d : List UInt8} (h4 : 4 ≤ m) (h : Enc l d) : Cut (cutAt m l) l := by
  have ht := h.three
  intro j h1 h2
  unfold cutAt at h1 h2
  intro hj
  have hj2 := ht j hj
  split at h1
  · rename_i h3
    rw [if_pos h3] at h2
    obtain h6 | h6 : j + 1 = m - 2 ∨ j + 2 = m - 2 := by omega
    · rw [← h6] at h3; exact hj2.1 h3
    · rw [← h6] at h3; exact hj2.2 h3
  · rename_i h3
    rw [if_neg h3] at h2
    split at h1
    · rename_i h5
      rw [if_pos h5] at h2
      obtain h6 | h6 : j + 1 = m - 3 ∨ j + 2 = m - 3 := by omega
      · rw [← h6] at h5; exact hj2.1 h5
      · rw [← h6] at h5; exact hj2.2 h5
    · rename_i h5
      rw [if_neg h5] at h2
      obtain rfl | rfl : j = m - 2 ∨ j = m - 3 := by omega
      · exact h3 hj
      · exact h5 hj

theorem soft_dec (m : Nat) (h4 : 4 ≤ m) : ∀ (n : Nat) (l d acc : List UInt8), l.length ≤ n → Enc l d → decL acc (softL m l) = (acc ++ d, 0) := by
  intro n
  induction n with
  | zero =>
    intro l d acc hn h
    obtain rfl := List.eq_nil_of_length_eq_zero (by omega : l.length = 0)
    cases h
    rw [softL_short (by simp)]; simp [decL]
  | succ n ih =>
    intro l d acc hn h
    by_cases hs : m < l.length
    · rw [softL_long hs h4]
      have hge := cutAt_ge m l
      obtain ⟨d1, d2, rfl, h1, h2⟩ := h.cut (cutAt m l) (by omega) (cutAt_cut h4 h)
      rw [List.append_assoc, h1.dec, List.cons_append, List.cons_append, List.cons_append, List.nil_append, decL_4 rfl rfl, ih _ d2 _ (by simp; omega) h2]
      simp
    · rw [softL_short (by omega)]
      have := h.dec acc []
      simpa [decL] using this

theorem dig_val : ∀ n, n < 16 → digN (dig n).toNat = (n : Int) := by decide
theorem enc_encL : ∀ l, Enc (encL l) l
  | [] => Enc.nil
  | c :: r => by
    rw [encL]; unfold encOne
    split
    · rename_i h
      refine Enc.one ?_ (enc_encL r)
      rcases h with h | h
      · exact .inl h
      · exact .inr h.1
    · have hc := c.toNat_lt
      have h1 := dig_val (c.toNat / 16) (by omega)
      have h2 := dig_val (c.toNat % 16) (by omega)
      exact Enc.esc (by omega) (by omega) (by rw [h1, h2]; omega) (enc_encL r)
theorem dec_encL (l : List UInt8) : decL [] (encL l) = (l, 0) := by
  have := (enc_encL l).dec [] []
  simpa [decL] using this

/-- All bytes are such as anybody prints, and no line is too long. -/
def okB (c : UInt8) : Prop := c.toNat = 9 ∨ c.toNat = 10 ∨ c.toNat = 13 ∨ 32 ≤ c.toNat ∧ c.toNat ≤ 126
def nextN (n : Nat) (c : UInt8) : Nat := if c.toNat = 13 then n else if c.toNat = 10 then 0 else n + 1
def okL (m n : Nat) : List UInt8 → Prop
  | [] => True
  | c :: t => okB c ∧ nextN n c ≤ m ∧ okL m (nextN n c) t

theorem Enc.bytes {l d : List UInt8} (h : Enc l d) : ∀ c ∈ l, c.toNat = 9 ∨ 32 ≤ c.toNat ∧ c.toNat ≤ 126 := by
  induction h with
  | nil => simp
  | one hc _ ih =>
    intro c h
    rcases List.mem_cons.1 h with rfl | h
    · exact (plain_byte hc).2
    · exact ih c h
  | esc hx hy hq _ ih =>
    intro c h
    rcases List.mem_cons.1 h with rfl | h
    · right; decide
    rcases List.mem_cons.1 h with rfl | h
    · right; exact (dig_pos hx).2
    rcases List.mem_cons.1 h with rfl | h
    · right; exact (dig_pos hy).2
    · exact ih c h
theorem okL_run {m : Nat} : ∀ (l r : List UInt8) (n : Nat), (∀ c ∈ l, c.toNat = 9 ∨ 32 ≤ c.toNat ∧ c.toNat ≤ 126) → n + l.length ≤ m → okL m (n + l.length) r → okL m n (l ++ r)
  | [], r, n, _, _, h => h
  | c :: l, r, n, hc, hn, h => by
    have h1 := hc c (by simp)
    have hx : nextN n c = n + 1 := by unfold nextN; rw [if_neg (by omega), if_neg (by omega)]
    refine ⟨by unfold okB; omega, by rw [hx]; simp at hn; omega, ?_⟩
    rw [hx]
    exact okL_run l r (n + 1) (fun x h => hc x (by simp [h])) (by simp at hn; omega) (by simp at h; rw [show n + 1 + l.length = n + (l.length + 1) by omega]; exact h)
theorem soft_ok (m : Nat) (h4 : 4 ≤ m) : ∀ (n : Nat) (l d : List UInt8), l.length ≤ n → Enc l d → okL m 0 (softL m l) := by
  intro n
  induction n with
  | zero =>
    intro l d hn h
    obtain rfl := List.eq_nil_of_length_eq_zero (by omega : l.length = 0)
    rw [softL_short (by simp)]; trivial
  | succ n ih =>
    intro l d hn h
    by_cases hs : m < l.length
    · rw [softL_long hs h4]
      have hge := cutAt_ge m l
      obtain ⟨d1, d2, rfl, h1, h2⟩ := h.cut (cutAt m l) (by omega) (cutAt_cut h4 h)
      have hl : (l.take (cutAt m l)).length = cutAt m l := by simp; omega
      rw [List.append_assoc]
      refine okL_run _ _ _ h1.bytes (by omega) ?_
      rw [hl, Nat.zero_add]
      refine ⟨by unfold okB; decide, by show cutAt m l + 1 ≤ m; omega, by unfold okB; decide, by show cutAt m l + 1 ≤ m; omega, by unfold okB; decide, Nat.zero_le _, ?_⟩
      exact ih _ d2 (by simp; omega) h2
    · rw [softL_short (by omega)]
      have := okL_run (m := m) l [] 0 h.bytes (by omega) trivial
      simpa using this
theorem softL_len (m : Nat) (h4 : 4 ≤ m) : ∀ (n : Nat) (l : List UInt8), l.length ≤ n → (softL m l).length ≤ 4 * l.length := by
  intro n
  induction n with
  | zero =>
    intro l hn
    rw [softL_short (by omega)]; omega
  | succ n ih =>
    intro l hn
    by_cases hs : m < l.length
    · rw [softL_long hs h4]
      have hge := cutAt_ge m l
      have := ih (l.drop (cutAt m l)) (by simp; omega)
      simp at this ⊢
      omega
    · rw [softL_short (by omega)]; omega
end Go.Proofs.Ytjcglbopggcmdaa
