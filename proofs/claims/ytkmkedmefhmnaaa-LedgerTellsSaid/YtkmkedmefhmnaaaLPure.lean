/- Which items are there behind changes: plain lists (no program in sight). -/
import Derived.Test.YtkmkedmefhmnaaaLTrim
namespace Go.Proofs.Ytkmkedmefhmnaaa
open Go.RowKit Lift

def withL (n : Int) : List Int → List Int
  | [] => [n]
  | x :: r => if x < n then x :: withL n r else if x = n then x :: r else n :: x :: r
def withoutL (n : Int) (s : List Int) : List Int := s.filter fun x => decide (x ≠ n)
def stepL (s : List Int) (c : Chg) : List Int := if c.2.2 = 1 then withL c.2.1 s else if c.2.2 = 2 then withoutL c.2.1 s else s
def idsL (ids : List Int) : List Int := ids.foldl (fun s x => withL x s) []
def applyL (ids : List Int) (l : List Chg) : List Int := l.foldl stepL (idsL ids)

theorem mem_with {x n : Int} : ∀ {s : List Int}, x ∈ withL n s ↔ x = n ∨ x ∈ s
  | [] => by simp [withL]
  | y :: r => by
    rw [withL]
    split
    · rw [List.mem_cons, mem_with, List.mem_cons]
      constructor
      · rintro (h | h | h) <;> simp [h]
      · rintro (h | h | h) <;> simp [h]
    · split
      · rename_i h; subst h; simp
      · simp
theorem up_with {n : Int} : ∀ {s : List Int}, s.Pairwise (· < ·) → (withL n s).Pairwise (· < ·)
  | [], _ => by simp [withL]
  | y :: r, h => by
    rw [withL]
    obtain ⟨h1, h2⟩ := List.pairwise_cons.1 h
    split
    · refine List.pairwise_cons.2 ⟨fun x hx => ?_, up_with h2⟩
      rcases mem_with.1 hx with rfl | hx
      · assumption
      · exact h1 x hx
    · split
      · exact h
      · refine List.pairwise_cons.2 ⟨fun x hx => ?_, h⟩
        rcases List.mem_cons.1 hx with rfl | hx
        · omega
        · have := h1 x hx; omega
theorem with_len {n : Int} : ∀ {s : List Int}, (withL n s).length ≤ s.length + 1
  | [] => by simp [withL]
  | y :: r => by
    have := @with_len n r
    rw [withL]
    split
    · simp; omega
    · split <;> simp
theorem with_at {n : Int} : ∀ {s : List Int} {i : Nat}, i ≤ s.length → (∀ (j : Nat) (x : Int), j < i → s[j]? = some x → x < n) →
    (s[i]? = some n → withL n s = s) ∧ ((∀ x, s[i]? = some x → n < x) → withL n s = (s.take i ++ [n]) ++ s.drop i)
  | [], i, hi, _ => by
    obtain rfl : i = 0 := by simpa using hi
    simp [withL]
  | y :: r, 0, _, _ => by
    constructor
    · intro h; simp at h; subst h; simp [withL]
    · intro h
      have := h y (by simp)
      rw [withL, if_neg (by omega), if_neg (by omega)]
      simp
  | y :: r, i + 1, hi, hlt => by
    have h0 := hlt 0 y (by omega) (by simp)
    obtain ⟨h1, h2⟩ := with_at (s := r) (i := i) (by simpa using hi) (fun j x hj hx => hlt (j + 1) x (by omega) (by simpa using hx))
    rw [withL, if_pos h0]
    constructor
    · intro h; rw [h1 (by simpa using h)]
    · intro h; rw [h2 (fun x hx => h x (by simpa using hx))]; simp
theorem mem_without {x n : Int} {s : List Int} : x ∈ withoutL n s ↔ x ≠ n ∧ x ∈ s := by
  unfold withoutL; rw [List.mem_filter]; simp [and_comm]
theorem up_without {n : Int} {s : List Int} (h : s.Pairwise (· < ·)) : (withoutL n s).Pairwise (· < ·) := h.filter _
theorem without_len {n : Int} {s : List Int} : (withoutL n s).length ≤ s.length := List.length_filter_le _ _
theorem up_step {s : List Int} (c : Chg) (h : s.Pairwise (· < ·)) : (stepL s c).Pairwise (· < ·) := by
  unfold stepL; split
  · exact up_with h
  · split
    · exact up_without h
    · exact h
theorem step_len {s : List Int} (c : Chg) : (stepL s c).length ≤ s.length + 1 := by
  unfold stepL; split
  · exact with_len
  · split
    · have := @without_len c.2.1 s; omega
    · omega
theorem mem_step {s : List Int} (c : Chg) (x : Int) : x ∈ stepL s c ↔ (if c.2.2 = 1 ∧ x = c.2.1 then True else if c.2.2 = 2 ∧ x = c.2.1 then False else x ∈ s) := by
  unfold stepL
  by_cases h1 : c.2.2 = 1
  · rw [if_pos h1, mem_with]
    by_cases hx : x = c.2.1
    · simp [h1, hx]
    · rw [if_neg (by simp [hx]), if_neg (by simp [hx])]; simp [hx]
  · rw [if_neg h1]
    by_cases h2 : c.2.2 = 2
    · rw [if_pos h2, mem_without]
      by_cases hx : x = c.2.1
      · simp [h2, hx]
      · rw [if_neg (by simp [hx]), if_neg (by simp [hx])]; simp [hx]
    · rw [if_neg h2, if_neg (by simp [h1]), if_neg (by simp [h2])]
theorem ids_snoc (l : List Int) (x : Int) : idsL (l ++ [x]) = withL x (idsL l) := by unfold idsL; simp
theorem apply_snoc (ids : List Int) (l : List Chg) (c : Chg) : applyL ids (l ++ [c]) = stepL (applyL ids l) c := by unfold applyL; simp
theorem foldl_ind {α β : Type} {p : β → Prop} {f : β → α → β} (hf : ∀ b a, p b → p (f b a)) : ∀ (l : List α) (b : β), p b → p (l.foldl f b)
  | [], _, h => h
  | a :: l, b, h => foldl_ind hf l (f b a) (hf b a h)
theorem up_ids (ids : List Int) : (idsL ids).Pairwise (· < ·) := foldl_ind (p := fun s : List Int => s.Pairwise (· < ·)) (fun _ _ h => up_with h) ids [] List.Pairwise.nil
theorem up_apply (ids : List Int) (l : List Chg) : (applyL ids l).Pairwise (· < ·) := foldl_ind (p := fun s : List Int => s.Pairwise (· < ·)) (fun _ c h => up_step c h) l _ (up_ids ids)
theorem ids_len : ∀ (ids : List Int), (idsL ids).length ≤ ids.length := by
  have : ∀ (ids s : List Int), (ids.foldl (fun s x => withL x s) s).length ≤ s.length + ids.length := by
    intro ids
    induction ids with
    | nil => intro s; simp
    | cons x r ih => intro s; have := ih (withL x s); have := @with_len x s; simp; omega
  intro ids; have := this ids []; simpa [idsL] using this
theorem apply_len (ids : List Int) (l : List Chg) : (applyL ids l).length ≤ ids.length + l.length := by
  have : ∀ (l : List Chg) (s : List Int), (l.foldl stepL s).length ≤ s.length + l.length := by
    intro l
    induction l with
    | nil => intro s; simp
    | cons c r ih => intro s; have := ih (stepL s c); have := @step_len s c; simp; omega
  have h1 := this l (idsL ids); have := ids_len ids; unfold applyL; omega
theorem ids_mem {ids : List Int} {x : Int} : x ∈ idsL ids ↔ x ∈ ids := by
  have : ∀ (ids s : List Int), x ∈ ids.foldl (fun s x => withL x s) s ↔ x ∈ ids ∨ x ∈ s := by
    intro ids
    induction ids with
    | nil => intro s; simp
    | cons y r ih =>
      intro s
      rw [List.foldl_cons, ih, mem_with, List.mem_cons]
      constructor
      · rintro (h | h | h) <;> simp [h]
      · rintro ((h | h) | h) <;> simp [h]
  have := this ids []; simpa [idsL] using this
/-- Sorted lists with the same members are one. -/
theorem up_ext {s t : List Int} (hs : s.Pairwise (· < ·)) (ht : t.Pairwise (· < ·)) (h : ∀ x, x ∈ s ↔ x ∈ t) : s = t := by
  have hn : ∀ {s : List Int}, s.Pairwise (· < ·) → s.Nodup := fun h => h.imp (fun {a b} h e => by omega)
  refine List.Perm.eq_of_pairwise (le := (· < ·)) (fun a b _ _ h1 h2 => ?_) hs ht ((List.perm_ext_iff_of_nodup (hn hs) (hn ht)).2 h)
  omega
theorem sorted_is {ss s : List Int} (hn : ss.Nodup) (hs : s.Pairwise (· < ·)) (h : ∀ x, x ∈ ss ↔ x ∈ s) : ss.mergeSort (fun x y => decide (x ≤ y)) = s := by
  have hp : (ss.mergeSort (fun x y => decide (x ≤ y))).Pairwise (fun a b => a ≤ b) :=
    (List.pairwise_mergeSort (le := fun x y : Int => decide (x ≤ y)) (fun a b c h1 h2 => by simp only [decide_eq_true_eq] at *; omega) (fun a b => by simp only [Bool.or_eq_true, decide_eq_true_eq]; omega) ss).imp (by simp)
  have hN : (ss.mergeSort (fun x y => decide (x ≤ y))).Nodup := (List.mergeSort_perm ss _).nodup_iff.2 hn
  refine up_ext ?_ hs (fun x => by rw [(List.mergeSort_perm ss _).mem_iff]; exact h x)
  exact (hp.and hN).imp (fun {a b} h => by have := h.1; have := h.2; omega)
end Go.Proofs.Ytkmkedmefhmnaaa
