/- Lines, each with those that go on with it: what they are, in plain Lean. -/
import Derived.Test.YtclcahkgeaediaaDoorStrFn
import Derived.Test.YtclcahkgeaediaaDoorJoin
namespace Go.Proofs.YtclcahkgeaediaaDoor
open Go.RowKit Lift
set_option linter.unusedSimpArgs false
set_option linter.unusedVariables false

abbrev NL := Nat × ByteArray
def addLast (m : List NL) (x : ByteArray) : List NL := match m.getLast? with | none => [] | some p => m.dropLast ++ [(p.1, ⟨(p.2.data.toList ++ x.data.toList).toArray⟩)]
/-- The first k lines, each with those that go on with it, and the number of the one with which it begins. -/
def numb (l : List ByteArray) : Nat → List NL
  | 0 => []
  | k + 1 => match l[k]? with
    | none => numb l k
    | some x => if blAt x 0 = true ∧ numb l k ≠ [] then addLast (numb l k) x else numb l k ++ [(k + 1, x)]
theorem numb_add {l : List ByteArray} {k : Nat} {x : ByteArray} (h : l[k]? = some x) (h1 : blAt x 0 = true) (h2 : numb l k ≠ []) : numb l (k + 1) = addLast (numb l k) x := by
  rw [numb, h]; simp only; rw [if_pos ⟨h1, h2⟩]
theorem numb_new {l : List ByteArray} {k : Nat} {x : ByteArray} (h : l[k]? = some x) (h1 : ¬ (blAt x 0 = true ∧ numb l k ≠ [])) : numb l (k + 1) = numb l k ++ [(k + 1, x)] := by
  rw [numb, h]; simp only; rw [if_neg h1]
theorem addLast_len (m : List NL) (x : ByteArray) : (addLast m x).length = m.length := by
  unfold addLast
  cases h : m.getLast? with
  | none => rw [List.getLast?_eq_none_iff.1 h]
  | some p =>
    have : m ≠ [] := by rintro rfl; simp at h
    have := List.length_pos_iff.2 this
    simp; omega
theorem addLast_snoc (m : List NL) (p : NL) (x : ByteArray) : addLast (m ++ [p]) x = m ++ [(p.1, ⟨(p.2.data.toList ++ x.data.toList).toArray⟩)] := by
  unfold addLast; simp
theorem numb_len (l : List ByteArray) : ∀ k, (numb l k).length ≤ k
  | 0 => by simp [numb]
  | k + 1 => by
    have ih := numb_len l k
    unfold numb
    split
    · omega
    · split
      · rw [addLast_len]; omega
      · rw [List.length_append, List.length_singleton]; omega
theorem numb_ne {l : List ByteArray} : ∀ {k : Nat}, 0 < k → k ≤ l.length → numb l k ≠ []
  | k + 1, _, h => by
    obtain ⟨x, hx⟩ := some_at (l := l) (k := k) (by omega)
    by_cases h1 : blAt x 0 = true ∧ numb l k ≠ []
    · rw [numb_add hx h1.1 h1.2]
      intro e
      have := addLast_len (numb l k) x
      rw [e] at this
      exact h1.2 (List.eq_nil_of_length_eq_zero this.symm)
    · rw [numb_new hx h1]; simp
def catB (l : List ByteArray) : ByteArray := ⟨(joinB [] l).toArray⟩
theorem joinB_snoc (l : List ByteArray) (x : ByteArray) (h : l ≠ []) : joinB [] (l ++ [x]) = joinB [] l ++ x.data.toList := by
  cases l with
  | nil => exact absurd rfl h
  | cons a r => simp [joinB, tailJ]
/-- A line that begins one, with those that go on. -/
theorem numb_group {l : List ByteArray} {a : Nat} (h0 : a = 0 ∨ ∀ x, l[a]? = some x → blAt x 0 = false) : ∀ j, a + 1 + j ≤ l.length → (∀ i x, a < i → i < a + 1 + j → l[i]? = some x → blAt x 0 = true) →
    numb l (a + 1 + j) = numb l a ++ [(a + 1, catB ((l.drop a).take (j + 1)))]
  | 0, hj, _ => by
    obtain ⟨x, hx⟩ := some_at (l := l) (k := a) (by omega)
    have h1 : ¬ (blAt x 0 = true ∧ numb l a ≠ []) := by
      rcases h0 with rfl | h0
      · simp [numb]
      · rw [h0 x hx]; simp
    rw [Nat.add_zero, numb_new hx h1, drop_at2 hx]
    have : catB [x] = x := by apply ByteArray.ext; apply Array.toList_inj.1; simp [catB, joinB, tailJ]
    simp [this]
  | j + 1, hj, hb => by
    have ih := numb_group h0 j (by omega) (fun i x h1 h2 => hb i x h1 (by omega))
    obtain ⟨x, hx⟩ := some_at (l := l) (k := a + 1 + j) (by omega)
    rw [show a + 1 + (j + 1) = (a + 1 + j) + 1 by omega, numb_add hx (hb _ x (by omega) (by omega) hx) (by rw [ih]; simp), ih, addLast_snoc]
    have hd : (l.drop a)[j + 1]? = some x := by rw [List.getElem?_drop, show a + (j + 1) = a + 1 + j by omega]; exact hx
    rw [take_at2 hd]
    congr 3
    unfold catB
    rw [joinB_snoc _ _ (by intro e; have := congrArg List.length e; simp at this; omega)]
theorem idxP_cases {α : Type} (p : α → Bool) : ∀ (l : List α) (k : Nat), (idxP p k l = -1 ∧ ∀ c ∈ l, p c = false) ∨ ∃ i : Nat, idxP p k l = ((k + i : Nat) : Int) ∧ i < l.length ∧ (∀ c, l[i]? = some c → p c = true) ∧ ∀ j c, j < i → l[j]? = some c → p c = false
  | [], k => .inl ⟨rfl, by simp⟩
  | a :: l, k => by
    unfold idxP
    by_cases h : p a = true
    · rw [if_pos h]
      exact .inr ⟨0, rfl, by simp, fun c hc => by simp at hc; subst hc; exact h, fun j c hj => by omega⟩
    · rw [if_neg h]
      have h' : p a = false := by simpa using h
      rcases idxP_cases p l (k + 1) with ⟨h1, h2⟩ | ⟨i, h1, h2, h3, h4⟩
      · exact .inl ⟨h1, fun c hc => by rcases List.mem_cons.1 hc with rfl | hc; exact h'; exact h2 c hc⟩
      · refine .inr ⟨i + 1, by rw [h1]; congr 1; omega, by simp; omega, fun c hc => h3 c (by simpa using hc), fun j c hj hc => ?_⟩
        cases j with
        | zero => simp at hc; subst hc; exact h'
        | succ j => exact h4 j c (by omega) (by simpa using hc)
/-- How many lines go on behind one. -/
def goOn (l : List ByteArray) (a : Nat) : Nat := if idxP (fun s => !blAt s 0) 0 (l.drop (a + 1)) < 0 then l.length - a - 1 else (idxP (fun s => !blAt s 0) 0 (l.drop (a + 1))).toNat
theorem goOn_spec {l : List ByteArray} {a : Nat} (ha : a < l.length) : a + 1 + goOn l a ≤ l.length ∧ (∀ i x, a < i → i < a + 1 + goOn l a → l[i]? = some x → blAt x 0 = true) ∧ ∀ x, l[a + 1 + goOn l a]? = some x → blAt x 0 = false := by
  unfold goOn
  rcases idxP_cases (fun s => !blAt s 0) (l.drop (a + 1)) 0 with ⟨h1, h2⟩ | ⟨i, h1, h2, h3, h4⟩
  · rw [h1, if_pos (by omega)]
    refine ⟨by omega, fun i x g1 g2 hx => ?_, fun x hx => ?_⟩
    · have hm : x ∈ l.drop (a + 1) := List.mem_of_getElem? (i := i - (a + 1)) (by rw [List.getElem?_drop, show a + 1 + (i - (a + 1)) = i by omega]; exact hx)
      simpa using h2 x hm
    · rw [show a + 1 + (l.length - a - 1) = l.length by omega] at hx; simp at hx
  · rw [h1, if_neg (by omega)]
    simp only [Nat.zero_add, Int.toNat_natCast]
    rw [List.length_drop] at h2
    refine ⟨by omega, fun j x g1 g2 hx => ?_, fun x hx => ?_⟩
    · have := h4 (j - (a + 1)) x (by omega) (by rw [List.getElem?_drop, show a + 1 + (j - (a + 1)) = j by omega]; exact hx)
      simpa using this
    · have := h3 x (by rw [List.getElem?_drop]; exact hx)
      simpa using this
def Begins (l : List ByteArray) (a : Nat) : Prop := a ≤ l.length ∧ (a = 0 ∨ ∀ x, l[a]? = some x → blAt x 0 = false)
theorem Begins.next {l : List ByteArray} {a : Nat} (h : Begins l a) (ha : a < l.length) : Begins l (a + 1 + goOn l a) ∧ numb l (a + 1 + goOn l a) = numb l a ++ [(a + 1, catB ((l.drop a).take (goOn l a + 1)))] := by
  obtain ⟨h1, h2, h3⟩ := goOn_spec ha
  exact ⟨⟨h1, .inr h3⟩, numb_group h.2 _ h1 h2⟩
theorem Begins.initial {l : List ByteArray} : ∀ (d a : Nat), l.length - a ≤ d → Begins l a → numb l a <+: numb l l.length
  | 0, a, hd, h => by have := h.1; rw [show a = l.length by omega]; exact List.prefix_refl _
  | d + 1, a, hd, h => by
    by_cases ha : a < l.length
    · obtain ⟨h1, h2⟩ := h.next ha
      have := Begins.initial d _ (by omega) h1
      rw [h2] at this
      exact (List.prefix_append _ _).trans this
    · have := h.1; rw [show a = l.length by omega]; exact List.prefix_refl _
theorem begins_zero (l : List ByteArray) : Begins l 0 := ⟨by omega, .inl rfl⟩
end Go.Proofs.YtclcahkgeaediaaDoor
