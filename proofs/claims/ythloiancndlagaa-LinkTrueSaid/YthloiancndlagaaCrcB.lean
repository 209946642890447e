/- Plain: a burst of at most sixteen bits changes the register at the end. -/
import Derived.Test.YthloiancndlagaaCrcO
namespace Crc
open Go

theorem poly_lsb (x : BitVec 16) (b : Bool) : (stepB x b).getLsbD 0 = (x.msb ^^ b) := by
  unfold stepB
  cases h : (x.msb ^^ b) <;> simp

theorem feed_zero (l : List Bool) : ∀ x : BitVec 16, l.length ≤ 16 → feed x l = 0#16 → ∀ i, i < 16 → x.getMsbD i = l.getD i false := by
  induction l with
  | nil => intro x _ h i _; simp [feed] at h; subst h; simp
  | cons b l ih =>
    intro x hl h i hi
    have h' : feed (stepB x b) l = 0#16 := h
    have k := ih _ (by simp at hl; omega) h'
    have k0 := k 15 (by omega)
    have e0 : l.getD 15 false = false := by
      rw [List.getD_eq_getElem?_getD, List.getElem?_eq_none (by simp at hl; omega)]; rfl
    rw [e0, BitVec.getMsbD] at k0
    simp only [show (15 : Nat) < 16 by omega, decide_true, Bool.true_and, show 16 - 1 - 15 = 0 by omega] at k0
    rw [poly_lsb] at k0
    have hs : stepB x b = x <<< 1 := by unfold stepB; rw [k0]; rfl
    cases i with
    | zero =>
      have : x.msb = b := by cases hx : x.msb <;> cases b <;> simp_all
      simp only [List.getD_cons_zero]
      rw [← this]; rfl
    | succ i =>
      have k1 := k i (by omega)
      rw [hs, BitVec.getMsbD_shiftLeft] at k1
      simp only [List.getD_cons_succ]
      rw [← k1, Nat.add_comm]

theorem step_zero (x : BitVec 16) (h : stepB x false = 0#16) : x = 0#16 := by
  have := feed_zero [false] x (by simp) h
  apply BitVec.eq_of_getMsbD_eq
  intro i hi
  rw [this i hi]
  cases i <;> simp

theorem feed_falses (l : List Bool) : ∀ x : BitVec 16, (∀ b ∈ l, b = false) → (feed x l = 0#16 ↔ x = 0#16) := by
  induction l with
  | nil => intro x _; simp [feed]
  | cons b l ih =>
    intro x h
    obtain rfl : b = false := h b (by simp)
    show feed (stepB x false) l = 0#16 ↔ _
    rw [ih _ (fun b hb => h b (by simp [hb]))]
    constructor
    · exact step_zero x
    · rintro rfl; decide

theorem feed_append (x : BitVec 16) (l m : List Bool) : feed x (l ++ m) = feed (feed x l) m := by simp [feed]

/-- A burst is seen. -/
theorem feed_burst (d : List Bool) (p : Nat) (hp : d[p]? = some true) (h1 : ∀ j, j < p → d[j]? = some false) (h2 : ∀ j, p + 16 ≤ j → j < d.length → d[j]? = some false) : feed 0#16 d ≠ 0#16 := by
  have hpl : p < d.length := (List.getElem?_eq_some_iff.1 hp).1
  have e : d = d.take p ++ ((d.drop p).take 16 ++ (d.drop p).drop 16) := by rw [List.take_append_drop, List.take_append_drop]
  rw [e, feed_append, feed_append]
  have f1 : feed 0#16 (d.take p) = 0#16 := by
    rw [feed_falses]
    intro b hb
    obtain ⟨j, hj, rfl⟩ := List.mem_iff_getElem.1 hb
    have hj' : j < p := by simp at hj; omega
    have := h1 j hj'
    rw [List.getElem_take]
    rw [List.getElem?_eq_getElem (by omega)] at this
    exact Option.some.inj this
  rw [f1]
  intro hz
  rw [feed_falses] at hz
  · have := feed_zero _ _ (by simp; omega) hz 0 (by omega)
    have hh : ((d.drop p).take 16).getD 0 false = true := by
      rw [List.getD_eq_getElem?_getD, List.getElem?_take, if_pos (by omega), List.getElem?_drop, Nat.add_zero, hp]; rfl
    rw [hh] at this
    simp at this
  · intro b hb
    obtain ⟨j, hj, rfl⟩ := List.mem_iff_getElem.1 hb
    simp only [List.length_drop] at hj
    have := h2 (p + (16 + j)) (by omega) (by omega)
    rw [List.getElem_drop, List.getElem_drop]
    rw [List.getElem?_eq_getElem (by omega)] at this
    exact Option.some.inj this

/-! The sum behind a text brings the register to nothing. -/
def bitsL (l : List UInt8) : List Bool := l.flatMap bitsOf

theorem bitsL_append (l m : List UInt8) : bitsL (l ++ m) = bitsL l ++ bitsL m := by simp [bitsL]
theorem bitsOf_length (c : UInt8) : (bitsOf c).length = 8 := by simp [bitsOf]
theorem bitsL_length (l : List UInt8) : (bitsL l).length = 8 * l.length := by
  induction l with
  | nil => rfl
  | cons c l ih => simp only [bitsL, List.flatMap_cons, List.length_append, bitsOf_length, List.length_cons] at *; omega

theorem bitsL_get (l : List UInt8) : ∀ i, (bitsL l)[i]? = (l[i / 8]?).map fun c => c.toNat.testBit (7 - i % 8) := by
  induction l with
  | nil => intro i; simp [bitsL]
  | cons c l ih =>
    intro i
    have e : bitsL (c :: l) = bitsOf c ++ bitsL l := by simp [bitsL]
    rw [e]
    by_cases h : i < 8
    · rw [List.getElem?_append_left (by rw [bitsOf_length]; exact h), Nat.div_eq_of_lt h, Nat.mod_eq_of_lt h]
      simp [bitsOf, h]
    · rw [List.getElem?_append_right (by rw [bitsOf_length]; omega), bitsOf_length, ih]
      have h1 : i / 8 = (i - 8) / 8 + 1 := by omega
      have h2 : i % 8 = (i - 8) % 8 := by omega
      rw [h1, h2]; rfl

theorem bits_tail (x : BitVec 16) : bitsL (tail x) = (List.range 16).map fun j => (x <<< j).msb := by
  apply List.ext_getElem?
  intro i
  rw [bitsL_get]
  by_cases h : i < 16
  · have hx := x.isLt
    simp only [List.getElem?_map, List.getElem?_range h, Option.map_some]
    rw [BitVec.msb_shiftLeft, BitVec.getMsbD]
    simp only [h, decide_true, Bool.true_and]
    by_cases h8 : i < 8
    · rw [Nat.div_eq_of_lt h8, Nat.mod_eq_of_lt h8]
      simp only [tail, List.getElem?_cons_zero, Option.map_some, hi]
      congr 1
      rw [UInt8.toNat_ofNat', Nat.testBit_mod_two_pow, BitVec.getLsbD, show (256 : Nat) = 2 ^ 8 from rfl, Nat.testBit_div_two_pow]
      simp only [show 7 - i < 8 by omega, decide_true, Bool.true_and]
      congr 1; omega
    · have h1 : i / 8 = 1 := by omega
      rw [h1]
      simp only [tail, List.getElem?_cons_succ, List.getElem?_cons_zero, Option.map_some, lo]
      congr 1
      rw [UInt8.toNat_ofNat', Nat.testBit_mod_two_pow, BitVec.getLsbD]
      simp only [show 7 - i % 8 < 8 by omega, decide_true, Bool.true_and]
      congr 1; omega
  · rw [List.getElem?_eq_none (by simp [tail]; omega), List.getElem?_eq_none (by simp; omega)]; rfl

theorem feed_tail (x : BitVec 16) : feed x (bitsL (tail x)) = 0#16 := by
  have h := iter_eq 16 x x
  rw [BitVec.xor_self] at h
  have h0 : ∀ n, Nat.repeat (fun x => stepB x false) n (0#16) = 0#16 := by
    intro n; induction n with
    | zero => rfl
    | succ n ih => show stepB (Nat.repeat _ n 0#16) false = _; rw [ih]; decide
  have hz : x <<< 16 = 0#16 := by apply BitVec.eq_of_getLsbD_eq; intro i hi; simp [hi]
  rw [h0, hz, BitVec.xor_zero, ← bits_tail] at h
  exact h.symm

theorem open_zero (s : ByteArray) (h : openB s = true) : feed 0xffff#16 (bitsL s.data.toList) = 0#16 := by
  unfold openB at h
  simp only [Bool.and_eq_true, beq_iff_eq] at h
  have e : s.data.toList = bodyOf s ++ tail (crc (bodyOf s)) := by rw [← h.2]; exact (List.take_append_drop _ _).symm
  rw [e, bitsL_append, feed_append]
  exact feed_tail _

/-- Two texts that are both right differ by no burst. -/
theorem burst_seen (s t : ByteArray) (hz : s.data.toList.length = t.data.toList.length) (hs : openB s = true) (p : Nat)
    (hp : (bitsL t.data.toList)[p]? = ((bitsL s.data.toList)[p]?).map (!·)) (hpl : p < 8 * s.data.toList.length)
    (h1 : ∀ j, j < p → (bitsL t.data.toList)[j]? = (bitsL s.data.toList)[j]?) (h2 : ∀ j, p + 16 ≤ j → (bitsL t.data.toList)[j]? = (bitsL s.data.toList)[j]?) : openB t = false := by
  rw [← Bool.not_eq_true]
  intro ht
  have a := open_zero s hs
  have b := open_zero t ht
  have hl : (bitsL s.data.toList).length = (bitsL t.data.toList).length := by rw [bitsL_length, bitsL_length, hz]
  have hfl := feed_lin (bitsL s.data.toList) (bitsL t.data.toList) 0xffff#16 0xffff#16 hl
  rw [a, b, BitVec.xor_self, BitVec.xor_self] at hfl
  have hls := bitsL_length s.data.toList
  generalize bitsL s.data.toList = u at *
  generalize bitsL t.data.toList = v at *
  refine feed_burst (List.zipWith (· ^^ ·) u v) p ?_ ?_ ?_ hfl
  · rw [List.getElem?_zipWith, hp, List.getElem?_eq_getElem (by omega)]
    simp
  · intro j hj
    rw [List.getElem?_zipWith, h1 j hj, List.getElem?_eq_getElem (by omega)]
    simp
  · intro j hj hjl
    have : j < u.length := by simp at hjl; omega
    rw [List.getElem?_zipWith, h2 j hj, List.getElem?_eq_getElem this]
    simp
theorem first_bit : ∀ n, n < 256 → n ≠ 0 → ∃ k, k < 8 ∧ n.testBit (7 - k) = true ∧ ∀ j, j < k → n.testBit (7 - j) = false := by decide +kernel

theorem getD_set (l : List UInt8) (i j : Nat) (b : UInt8) (hi : i < l.length) : (l.set i b)[j]? = if i = j then some b else l[j]? := by
  by_cases h : i = j
  · subst h; simp [hi]
  · simp [List.getElem?_set_ne h, h]

/-- One byte that is turned into another is seen. -/
theorem one_seen (t : ByteArray) (h : openB t = true) (i : Nat) (hi : i < t.size) (y : UInt8) (hy : y ≠ 0) :
    openB ⟨(t.data.toList.set i (t.data.toList.getD i 0 ^^^ y)).toArray⟩ = false := by
  obtain ⟨k, hk, hb, hj⟩ := first_bit y.toNat y.toNat_lt (by intro e; exact hy (UInt8.toNat_inj.1 (by simpa using e)))
  have hil : i < t.data.toList.length := by simpa using hi
  have key : ∀ j, (bitsL (t.data.toList.set i (t.data.toList.getD i 0 ^^^ y)))[j]? = if j / 8 = i then ((bitsL t.data.toList)[j]?).map (· ^^ y.toNat.testBit (7 - j % 8)) else (bitsL t.data.toList)[j]? := by
    intro j
    rw [bitsL_get, bitsL_get, getD_set _ _ _ _ hil]
    by_cases e : j / 8 = i
    · rw [if_pos e.symm, if_pos e, e, List.getElem?_eq_getElem hil]
      simp only [Option.map_some, List.getD_eq_getElem?_getD, List.getElem?_eq_getElem hil, Option.getD_some, UInt8.toNat_xor, Nat.testBit_xor]
    · rw [if_neg (Ne.symm e), if_neg e]
  refine burst_seen t _ (by simp) h (8 * i + k) ?_ (by omega) ?_ ?_
  · show (bitsL (t.data.toList.set i _))[_]? = _
    rw [key, if_pos (by omega), show (8 * i + k) % 8 = k by omega, hb]
    congr 1; funext b; cases b <;> rfl
  · intro j hj'
    show (bitsL (t.data.toList.set i _))[_]? = _
    rw [key]
    split
    · rename_i e
      rw [hj (j % 8) (by omega)]
      cases (bitsL t.data.toList)[j]? <;> simp
    · rfl
  · intro j hj'
    show (bitsL (t.data.toList.set i _))[_]? = _
    rw [key, if_neg (by omega)]

theorem openS_no {s : ByteArray} (h : openB s = false) : openS s = ⟨#[]⟩ := by unfold openS; rw [h]; rfl

theorem xor_u8 (x y : UInt8) : bits .xor .u8 (x.toNat : Int) (y.toNat : Int) = ((x ^^^ y).toNat : Int) := by
  rw [u8_xor_nat _ _ x.toNat_lt y.toNat_lt, UInt8.toNat_xor]

/-- l is t with some bits turned from place i on, fewer than k of them, the one at i among them. -/
def Turned (t l : List UInt8) (i k : Nat) : Prop := ∃ fl : Nat → Bool, (∀ j, fl j = true → i ≤ j ∧ j < i + k) ∧ (1 ≤ k → fl i = true) ∧ ∀ j, (bitsL l)[j]? = ((bitsL t)[j]?).map (· ^^ fl j)
theorem turned_zero (t : List UInt8) (i : Nat) : Turned t t i 0 := ⟨fun _ => false, by simp, by omega, by intro j; cases (bitsL t)[j]? <;> simp⟩
theorem turned_skip {t l : List UInt8} {i k : Nat} (h : Turned t l i k) (hk : ¬ k = 0) : Turned t l i (k + 1) := by
  obtain ⟨fl, h1, h2, h3⟩ := h
  exact ⟨fl, fun j hj => ⟨(h1 j hj).1, by have := (h1 j hj).2; omega⟩, fun _ => h2 (by omega), h3⟩
theorem mask_bit (m n : Nat) (hm : m < 8) : (UInt8.ofNat (2 ^ m)).toNat.testBit n = decide (m = n) := by
  have : 2 ^ m < 256 := by
    calc 2 ^ m < 2 ^ 8 := Nat.pow_lt_pow_right (by omega) hm
      _ = 256 := rfl
  rw [UInt8.toNat_ofNat', Nat.mod_eq_of_lt this, Nat.testBit_two_pow]
theorem turned_flip {t l : List UInt8} {i k : Nat} (h : Turned t l i k) (hq : (i + k) / 8 < l.length) :
    Turned t (l.set ((i + k) / 8) (l.getD ((i + k) / 8) 0 ^^^ UInt8.ofNat (2 ^ (7 - (i + k) % 8)))) i (k + 1) := by
  obtain ⟨fl, h1, h2, h3⟩ := h
  have h4 : fl (i + k) = false := by
    cases e : fl (i + k)
    · rfl
    · exact absurd (h1 _ e).2 (by omega)
  refine ⟨fun j => if j = i + k then true else fl j, ?_, ?_, ?_⟩
  · intro j
    by_cases e : j = i + k
    · intro _; omega
    · simp only [e, if_false]; intro hj; have := h1 j hj; omega
  · intro _
    by_cases e : k = 0
    · subst e; simp
    · simp only [show ¬ i = i + k by omega, if_false]; exact h2 (by omega)
  · intro j
    have key := h3 j
    rw [bitsL_get] at key ⊢
    rw [getD_set _ _ _ _ hq]
    by_cases e : (i + k) / 8 = j / 8
    · rw [if_pos e]
      rw [← e, List.getElem?_eq_getElem hq] at key
      simp only [Option.map_some, List.getD_eq_getElem?_getD, List.getElem?_eq_getElem hq, Option.getD_some, UInt8.toNat_xor, Nat.testBit_xor] at key ⊢
      rw [mask_bit _ _ (by omega)]
      by_cases e2 : j = i + k
      · subst e2
        rw [h4] at key
        simp only [Bool.xor_false] at key
        cases hb : (bitsL t)[i + k]? <;> simp_all
      · have : ¬ (7 - (i + k) % 8 = 7 - j % 8) := by omega
        simp only [this, decide_false, Bool.xor_false, e2, if_false]
        exact key
    · rw [if_neg e, key]
      have : ¬ j = i + k := by intro e2; subst e2; exact e rfl
      simp only [this, if_false]
theorem turned_seen {t : ByteArray} {l : List UInt8} {i k : Nat} (h : Turned t.data.toList l i k) (ho : openB t = true) (hi : i < 8 * t.size) (h1 : 1 ≤ k) (h2 : k ≤ 16) (hl : l.length = t.size) : openB ⟨l.toArray⟩ = false := by
  obtain ⟨fl, f1, f2, f3⟩ := h
  have hz : t.data.toList.length = t.size := by simp
  have off : ∀ j, ¬ (i ≤ j ∧ j < i + k) → (bitsL l)[j]? = (bitsL t.data.toList)[j]? := by
    intro j hj
    have : fl j = false := by
      cases e : fl j
      · rfl
      · exact absurd (f1 j e) hj
    rw [f3, this]
    cases (bitsL t.data.toList)[j]? <;> simp
  refine burst_seen t ⟨l.toArray⟩ (by simp [hl]) ho i ?_ (by omega) ?_ ?_
  · show (bitsL l)[i]? = _
    rw [f3, f2 h1]
    cases (bitsL t.data.toList)[i]? <;> simp
  · intro j hj
    exact off j (by omega)
  · intro j hj
    exact off j (by omega)
theorem mask_int (m : Nat) (c : UInt8) : bits .xor .u8 (c.toNat : Int) (2 ^ m % 256) = ((c ^^^ UInt8.ofNat (2 ^ m)).toNat : Int) := by
  rw [← xor_u8]
  congr 1

end Crc
