/- Rows of the call's own: an element that is stored, a shorter row, what is cleared (no program in sight). -/
import Derived.Test.YtcfbmfcobpfcjaaDoorRd
import Derived.Laws.IdiomCopy
import Derived.Laws.OwnMore
import Derived.BigQuiet
namespace Lift
open Go Go.ChangeShapes Go.WideShapes Go.ChangeAt Go.RowKit Go.Deep
set_option linter.unusedSimpArgs false
set_option linter.unusedVariables false

def setsAt (xs : List Value) (o : Nat) : List Value → List Value
  | [] => xs
  | v :: r => setsAt (xs.set o v) (o + 1) r
theorem setsAt_length : ∀ (cs xs : List Value) (o : Nat), (setsAt xs o cs).length = xs.length
  | [], xs, o => rfl
  | v :: r, xs, o => by rw [setsAt, setsAt_length r]; simp
theorem setsAt_get : ∀ (cs xs : List Value) (o j : Nat), o + cs.length ≤ xs.length → (setsAt xs o cs)[j]? = if o ≤ j ∧ j < o + cs.length then cs[j - o]? else xs[j]?
  | [], xs, o, j, h => by rw [setsAt, if_neg (by simp)]
  | v :: r, xs, o, j, h => by
    simp only [List.length_cons] at h ⊢
    rw [setsAt, setsAt_get r (xs.set o v) (o + 1) j (by simp; omega)]
    by_cases e : j = o
    · subst e
      rw [if_neg (by omega), if_pos (by omega), List.getElem?_set_self (by omega)]
      simp
    · rw [List.getElem?_set_ne (by omega)]
      by_cases h1 : o + 1 ≤ j ∧ j < o + 1 + r.length
      · rw [if_pos h1, if_pos (by omega), show j - o = (j - (o + 1)) + 1 by omega]
        simp
      · rw [if_neg h1, if_neg (by omega)]
theorem owns_sets {base : Nat} {e : TypeId} {size : Nat} {g n cap : Nat} : ∀ (cs : List Value) (o : Nat) {w : World} {xs : List Value}, w.ownsRow base e size (.slice (some ⟨g, 0, none⟩) n cap) n xs →
    (w.setCells g o cs).ownsRow base e size (.slice (some ⟨g, 0, none⟩) n cap) n (setsAt xs o cs) ∧ Kept (fun k => k = g) w (w.setCells g o cs)
  | [], o, w, xs, h => ⟨h, Kept.refl _ _⟩
  | v :: r, o, w, xs, h => by
    obtain ⟨h1, h2⟩ := owns_sets r (o + 1) (h.stored o v).1
    exact ⟨h1, (Kept.setCell (X := fun k => k = g) w (p := ⟨g, o, none⟩) rfl v).trans h2 (fun _ _ h => h) (fun _ _ h => h)⟩

theorem RowsOf.idx {α : Type} {r : Rd α} {S : Nat → Prop} {w : World} {xs : List Value} {l : List α} (h : RowsOf r S w xs l) : ∀ (k : Nat) (c : α), l[k]? = some c → ∃ cs, r.rel S w cs c ∧ ∀ (j : Nat) v, cs[j]? = some v → xs[k * r.n + j]? = some v := by
  obtain ⟨css, rfl, hl, h⟩ := h
  intro k c hk
  obtain ⟨cs, h1, h2⟩ := h k c hk
  refine ⟨cs, h2, fun j v hj => flatten_at css k cs (fun d hd => ?_) h1 j v hj⟩
  obtain ⟨i, hi, rfl⟩ := List.getElem_of_mem hd
  obtain ⟨cs', h3, h4⟩ := h i l[i] (by simp)
  rw [List.getElem?_eq_getElem hi] at h3
  rw [Option.some.inj h3]
  exact r.len _ _ _ _ h4
theorem RowsOf.of_idx {α : Type} {r : Rd α} {S : Nat → Prop} {w : World} : ∀ {l : List α} {xs : List Value}, xs.length = l.length * r.n → (∀ (k : Nat) (c : α), l[k]? = some c → ∃ cs, r.rel S w cs c ∧ ∀ (j : Nat) v, cs[j]? = some v → xs[k * r.n + j]? = some v) → RowsOf r S w xs l
  | [], xs, hl, _ => by
    obtain rfl := List.eq_nil_of_length_eq_zero (by simpa using hl)
    exact RowsOf.nil _ _ _
  | c :: l, xs, hl, h => by
    obtain ⟨cs, h1, h2⟩ := h 0 c rfl
    have hn := r.len _ _ _ _ h1
    rw [List.length_cons, Nat.succ_mul] at hl
    have e1 : xs = cs ++ xs.drop r.n := by
      apply List.ext_getElem?
      intro j
      by_cases hj : j < r.n
      · rw [List.getElem?_append_left (by omega)]
        have := h2 j cs[j] (List.getElem?_eq_getElem (by omega))
        rw [Nat.zero_mul, Nat.zero_add] at this
        rw [this, List.getElem?_eq_getElem (by omega)]
      · rw [List.getElem?_append_right (by omega), List.getElem?_drop, show r.n + (j - cs.length) = j by omega]
    have ih := RowsOf.of_idx (r := r) (S := S) (w := w) (l := l) (xs := xs.drop r.n) (by simp; omega) (fun k c hk => by
      obtain ⟨cs', h3, h4⟩ := h (k + 1) c (by simpa using hk)
      refine ⟨cs', h3, fun j v hj => ?_⟩
      rw [List.getElem?_drop, ← h4 j v hj, Nat.succ_mul]
      congr 1
      omega)
    rw [e1]
    obtain ⟨css, e2, h5, h6⟩ := ih
    refine ⟨cs :: css, by rw [List.flatten_cons, e2], by simp [h5], fun k x hk => ?_⟩
    cases k with
    | zero => simp at hk; subst hk; exact ⟨cs, rfl, h1⟩
    | succ k => exact h6 k x (by simpa using hk)

theorem Own.at {α : Type} {r : Rd α} {S : Nat → Prop} {w : World} {base : Nat} {e : TypeId} {g n cap : Nat} {l : List α} (h : Own r S w base e (.slice (some ⟨g, 0, none⟩) n cap) l) {k : Nat} {c : α} (hk : l[k]? = some c) :
    ∃ cs, r.rel (fun b => S b ∧ b ≠ g) w cs c ∧ CellsAt w g (k * r.n) cs := by
  obtain ⟨xs, h1, h2⟩ := h
  obtain ⟨cs, h3, h4⟩ := h2.idx k c hk
  refine ⟨cs, r.mono _ _ _ _ _ h3 (fun b hb _ => ⟨hb.1, fun e => hb.2 (by rw [e]; rfl)⟩), fun j v hj => ?_⟩
  have := h1.cells (g := g) rfl _ _ (h4 j v hj)
  rw [Addr.add_lit, Nat.zero_add] at this
  exact this
theorem Own.free {α : Type} {r : Rd α} {S : Nat → Prop} {w : World} {base : Nat} {e : TypeId} {g n cap : Nat} {l : List α} (h : Own r S w base e (.slice (some ⟨g, 0, none⟩) n cap) l) (j : Nat) : w.frozen? ⟨g, j, none⟩ = false := by
  obtain ⟨xs, h1, h2⟩ := h
  obtain ⟨_, _, h3⟩ := own_form h1
  injection h3 with h3 h4 h5
  subst h4
  exact h1.frozenAt j
theorem Own.cap {α : Type} {r : Rd α} {S : Nat → Prop} {w : World} {base : Nat} {e : TypeId} {ao : Option Addr} {n cap : Nat} {l : List α} (h : Own r S w base e (.slice ao n cap) l) : l.length ≤ cap ∧ cap ≤ maxLen ∧ n = l.length ∧ (ao = none → cap = 0) := by
  obtain ⟨xs, h1, h2⟩ := h
  have hn : n = l.length := by
    obtain ⟨_, _, h3⟩ := own_form h1
    injection h3
  subst hn
  rcases h1.2 with ⟨e1, e2⟩ | ⟨g, cap', cur, e1, h3, h4, h5, h6, h7, h8⟩
  · injection e1 with e3 e4 e5
    subst e5
    exact ⟨by omega, by simp [maxLen], rfl, fun _ => rfl⟩
  · injection e1 with e3 e4 e5
    subst e5
    exact ⟨h5, h6, rfl, fun e => by rw [e] at e3; cases e3⟩
/-- An element is stored. -/
theorem Own.store {α : Type} {r : Rd α} {S : Nat → Prop} {w : World} {base : Nat} {e : TypeId} {g n cap : Nat} {l : List α} (h : Own r S w base e (.slice (some ⟨g, 0, none⟩) n cap) l) {k : Nat} (hk : k < l.length) {cs : List Value} {c : α}
    (hc : r.rel (fun b => S b ∧ b ≠ g) w cs c) : Own r S (w.setCells g (k * r.n) cs) base e (.slice (some ⟨g, 0, none⟩) n cap) (l.set k c) ∧ Kept (fun j => j = g) w (w.setCells g (k * r.n) cs) := by
  obtain ⟨xs, h1, h2⟩ := h
  have hn : n = l.length := by
    obtain ⟨_, _, h3⟩ := own_form h1
    injection h3
  subst hn
  obtain ⟨h3, h4⟩ := owns_sets cs (k * r.n) h1
  refine ⟨⟨_, by simpa using h3, ?_⟩, h4⟩
  have hl := h1.1
  have hcl := r.len _ _ _ _ hc
  have hr : k * r.n + cs.length ≤ xs.length := by rw [hl, hcl, ← Nat.succ_mul]; exact Nat.mul_le_mul_right _ hk
  have hx : ∀ b, (S b ∧ some b ≠ Value.ownBlock (.slice (some ⟨g, 0, none⟩) l.length cap)) → ¬ (b = g) := fun b hb e => hb.2 (by rw [e]; rfl)
  refine RowsOf.of_idx (by rw [setsAt_length]; simpa using hl) (fun i d hi => ?_)
  by_cases e : k = i
  · subst e
    rw [List.getElem?_set_self hk] at hi
    obtain rfl := Option.some.inj hi
    refine ⟨cs, r.kept _ (fun j => j = g) _ _ _ _ (r.mono _ _ _ _ _ hc (fun b hb _ => ⟨hb.1, fun e => hb.2 (by injection e)⟩)) h4 (fun b hb _ => hx b hb), fun j v hj => ?_⟩
    have hjl := (List.getElem?_eq_some_iff.1 hj).1
    rw [setsAt_get _ _ _ _ hr, if_pos (by omega), Nat.add_sub_cancel_left]
    exact hj
  · rw [List.getElem?_set_ne e] at hi
    obtain ⟨ds, h5, h6⟩ := h2.idx i d hi
    have hdl := r.len _ _ _ _ h5
    refine ⟨ds, r.kept _ (fun j => j = g) _ _ _ _ h5 h4 (fun b hb _ => hx b hb), fun j v hj => ?_⟩
    have hjl := (List.getElem?_eq_some_iff.1 hj).1
    rw [setsAt_get _ _ _ _ hr, if_neg ?_]
    · exact h6 j v hj
    · rcases Nat.lt_or_gt_of_ne e with h7 | h7
      · have := Nat.mul_le_mul_right r.n (show k + 1 ≤ i from h7); rw [Nat.succ_mul] at this; omega
      · have := Nat.mul_le_mul_right r.n (show i + 1 ≤ k from h7); rw [Nat.succ_mul] at this; omega

/-- The row's beginning. -/
theorem Own.take {α : Type} {r : Rd α} {S : Nat → Prop} {w : World} {base : Nat} {e : TypeId} {ao : Option Addr} {n cap : Nat} {l : List α} (h : Own r S w base e (.slice ao n cap) l) {k : Nat} (hk : k ≤ l.length) : Own r S w base e (.slice ao k cap) (l.take k) := by
  obtain ⟨xs, h1, h2⟩ := h
  have hl := h1.1
  refine ⟨xs.take (k * r.n), ?_, ?_⟩
  · rw [List.length_take, Nat.min_eq_left hk]
    have hkn := Nat.mul_le_mul_right r.n hk
    refine ⟨by simp; omega, ?_⟩
    rcases h1.2 with ⟨e1, e2⟩ | ⟨g, cap', cur, e1, h3, h4, h5, h6, h7, h8⟩
    · injection e1 with e3 e4 e5
      subst e3; subst e5
      exact .inl ⟨by rw [show k = 0 by omega], (by omega)⟩
    · injection e1 with e3 e4 e5
      subst e3; subst e5
      refine .inr ⟨g, cap, cur, rfl, h3, h4, by omega, h6, h7, ?_⟩
      rw [← h8, List.take_take, Nat.min_eq_left hkn]
  · refine RowsOf.of_idx (by rw [List.length_take, List.length_take, Nat.min_eq_left hk, hl, Nat.min_eq_left (Nat.mul_le_mul_right _ hk)]) (fun i d hi => ?_)
    rw [List.getElem?_take] at hi
    split at hi
    · rename_i hik
      obtain ⟨cs, h3, h4⟩ := h2.idx i d hi
      have hcl := r.len _ _ _ _ h3
      refine ⟨cs, r.mono _ _ _ _ _ h3 (fun b hb _ => ⟨hb.1, fun e => hb.2 (by rw [e]; cases ao <;> rfl)⟩), fun j v hj => ?_⟩
      have hjl := (List.getElem?_eq_some_iff.1 hj).1
      rw [List.getElem?_take, if_pos]
      · exact h4 j v hj
      · have := Nat.mul_le_mul_right r.n (show i + 1 ≤ k from hik); rw [Nat.succ_mul] at this; omega
    · cases hi

/-- 'clear(s)' of a row's end: the beginning stays. -/
theorem zeroCells_one {zs : Array Value} {n : Nat} (h : ∀ u ∈ zs.toList, u.oneCell' = true) : ∀ u ∈ (Builtin.zeroCells zs n).toList, u.oneCell' = true := by
  intro u hu
  obtain ⟨i, hi, rfl⟩ := List.getElem_of_mem hu
  simp only [Builtin.zeroCells] at hi ⊢
  simp at hi ⊢
  have hp : 0 < zs.size := by
    rcases Nat.eq_zero_or_pos zs.size with h0 | h0
    · rw [h0] at hi; simp at hi
    · exact h0
  rw [getElem!_pos zs (i % zs.size) (Nat.mod_lt _ hp)]
  exact h _ (by simp)
theorem zeroCells_size (zs : Array Value) (n : Nat) : (Builtin.zeroCells zs n).toList.length = n * zs.size := by simp [Builtin.zeroCells]
/-- 'clear(s)', s a slice of n > 0 elements. -/
theorem run_clear_row {P : Program} (w : World) (t e ty : TypeId) (z : Value) (ht : P.underlying t = some (.slice e)) (hv : ∀ w, (zeroValue e).run P w = .ok z w) (h1 : ∀ u ∈ z.cells.toList, u.oneCell' = true) (b o n c : Nat) (hn : 0 < n)
    (hc : ∀ j, j < n * z.cells.size → (w.cell? ⟨b, o + j, none⟩).isSome = true) (hf : ∀ j, j < n * z.cells.size → w.frozen? ⟨b, o + j, none⟩ = false) :
    (Builtin.clear_ #[t] ty #[.slice (some ⟨b, o, none⟩) n c]).run P w = .ok (.tuple #[]) (w.setCells b o (Builtin.zeroCells z.cells n).toList) := by
  have hst := run_storeCells_cells (P := P) b o (Builtin.zeroCells z.cells n).toList 0 w (by rw [zeroCells_size]; simpa using hc) (by rw [zeroCells_size]; simpa using hf) (zeroCells_one h1)
  simp only [Nat.add_zero] at hst
  obtain ⟨m, rfl⟩ : ∃ m, n = m + 1 := ⟨n - 1, by omega⟩
  simp [Builtin.clear_, run_underlying ht, hv, hst]
theorem Own.isSome {α : Type} {r : Rd α} {S : Nat → Prop} {w : World} {base : Nat} {e : TypeId} {g n cap : Nat} {l : List α} (h : Own r S w base e (.slice (some ⟨g, 0, none⟩) n cap) l) {j : Nat} (hj : j < l.length * r.n) : (w.cell? ⟨g, j, none⟩).isSome = true := by
  obtain ⟨xs, h1, h2⟩ := h
  have hl := h1.1
  have := h1.cells (g := g) rfl j xs[j] (List.getElem?_eq_getElem (by omega))
  rw [Addr.add_lit, Nat.zero_add] at this
  rw [this]; rfl
theorem owns_take {base : Nat} {e : TypeId} {size : Nat} {g n cap k : Nat} {w : World} {xs : List Value} (h : w.ownsRow base e size (.slice (some ⟨g, 0, none⟩) n cap) n xs) (hk : k ≤ n) : w.ownsRow base e size (.slice (some ⟨g, 0, none⟩) k cap) k (xs.take (k * size)) := by
  have hl := h.1
  have hkn := Nat.mul_le_mul_right size hk
  refine ⟨by simp; omega, ?_⟩
  rcases h.2 with ⟨e1, e2⟩ | ⟨g, cap', cur, e1, h3, h4, h5, h6, h7, h8⟩
  · injection e1 with e3; cases e3
  · injection e1 with e3 e4 e5
    cases e3; subst e5
    refine .inr ⟨g, cap, cur, rfl, h3, h4, by omega, h6, h7, ?_⟩
    rw [← h8, List.take_take, Nat.min_eq_left hkn]
/-- What is stored behind the first k elements leaves these. -/
theorem Own.cut {α : Type} {r : Rd α} {S : Nat → Prop} {w : World} {base : Nat} {e : TypeId} {g n cap : Nat} {l : List α} (h : Own r S w base e (.slice (some ⟨g, 0, none⟩) n cap) l) {k : Nat} (hk : k ≤ l.length) {cs : List Value} (hcs : k * r.n + cs.length ≤ l.length * r.n) :
    Own r S (w.setCells g (k * r.n) cs) base e (.slice (some ⟨g, 0, none⟩) k cap) (l.take k) ∧ Kept (fun j => j = g) w (w.setCells g (k * r.n) cs) := by
  have hT := h.take hk
  obtain ⟨xs, h1, h2⟩ := h
  have hn : n = l.length := by
    obtain ⟨_, _, h3⟩ := own_form h1
    injection h3
  subst hn
  obtain ⟨h3, h4⟩ := owns_sets cs (k * r.n) h1
  refine ⟨?_, h4⟩
  have h5 := owns_take h3 hk
  have hl := h1.1
  have h6 : (setsAt xs (k * r.n) cs).take (k * r.n) = xs.take (k * r.n) := by
    apply List.ext_getElem?
    intro j
    rw [List.getElem?_take, List.getElem?_take]
    by_cases hj : j < k * r.n
    · rw [if_pos hj, if_pos hj, setsAt_get _ _ _ _ (by omega), if_neg (by omega)]
    · rw [if_neg hj, if_neg hj]
  rw [h6] at h5
  refine ⟨_, by rw [List.length_take, Nat.min_eq_left hk]; exact h5, ?_⟩
  have hkn := Nat.mul_le_mul_right r.n hk
  refine RowsOf.of_idx (by rw [List.length_take, List.length_take, Nat.min_eq_left hk, hl, Nat.min_eq_left hkn]) (fun i d hi => ?_)
  rw [List.getElem?_take] at hi
  split at hi
  · rename_i hik
    obtain ⟨cs', h7, h8⟩ := h2.idx i d hi
    have hcl := r.len _ _ _ _ h7
    refine ⟨cs', r.kept _ (fun j => j = g) _ _ _ _ (r.mono _ _ _ _ _ h7 (fun b hb _ => ⟨hb.1, fun e => hb.2 (by rw [e]; rfl)⟩)) h4 (fun b hb _ e => hb.2 (by rw [e]; rfl)), fun j v hj => ?_⟩
    have hjl := (List.getElem?_eq_some_iff.1 hj).1
    rw [List.getElem?_take, if_pos]
    · exact h8 j v hj
    · have := Nat.mul_le_mul_right r.n (show i + 1 ≤ k from hik); rw [Nat.succ_mul] at this; omega
  · cases hi
theorem Own.block {α : Type} {r : Rd α} {S : Nat → Prop} {w : World} {base : Nat} {e : TypeId} {ao : Option Addr} {n cap : Nat} {l : List α} (h : Own r S w base e (.slice ao n cap) l) (hn : Value.ownBlock (.slice ao n cap) ≠ none) : ∃ g, ao = some ⟨g, 0, none⟩ := by
  obtain ⟨xs, h1, h2⟩ := h
  rcases h1.2 with ⟨e1, e2⟩ | ⟨g, cap', cur, e1, _⟩
  · rw [show Value.slice ao n cap = .slice none 0 0 from by injection e1 with a b c; subst a; subst c; congr] at hn
    exact absurd rfl hn
  · injection e1 with e1
    exact ⟨g, e1⟩
/-- A row of the call's own, not nil. -/
def SomeRow {α : Type} (r : Rd α) (e : TypeId) (l : List α) (w : World) (x : Ending) (w' : World) : Prop := ∃ g cap, x = .returned (.slice (some ⟨g, 0, none⟩) l.length cap) ∧ Own r (fun _ => True) w' w.heap.size e (.slice (some ⟨g, 0, none⟩) l.length cap) l ∧ Below w.heap.size w w'
/-- Elements that lead nowhere. -/
def Flat {α : Type} (r : Rd α) : Prop := ∀ S S' w w' cs a, r.rel S w cs a → r.rel S' w' cs a
theorem Own.flat {α : Type} {r : Rd α} (hf : Flat r) {S S' X : Nat → Prop} {w w' : World} {base : Nat} {e : TypeId} {v : Value} {l : List α} (h : Own r S w base e v l) (hk : Kept X w w') (hv : ∀ k, v.ownBlock = some k → ¬ X k) : Own r S' w' base e v l := by
  obtain ⟨xs, h1, css, h2, h3, h4⟩ := h
  refine ⟨xs, hk.own h1 hv, css, h2, h3, fun k c hc => ?_⟩
  obtain ⟨cs, h5, h6⟩ := h4 k c hc
  exact ⟨cs, h5, hf _ _ _ _ _ _ h6⟩
theorem Own.low {α : Type} {r : Rd α} (hf : Flat r) {S : Nat → Prop} {w w' : World} {base : Nat} {e : TypeId} {v : Value} {l : List α} (h : Own r S w base e v l) (hk : Kept (· < base) w w') : Own r S w' base e v l :=
  h.flat hf hk (fun k hk => by have := (h.lt k hk).1; omega)
theorem SlAt.flat {α : Type} {r : Rd α} (hf : Flat r) {S X : Nat → Prop} {w w' : World} {ao : Option Addr} {l : List α} (h : SlAt r S w ao l) (hk : Kept X w w') (hn : ∀ a, ao = some a → ¬ X a.block) : SlAt r S w' ao l := by
  rcases h with rfl | ⟨b, off, rfl, h1, h2, h3⟩
  · exact .inl rfl
  · refine .inr ⟨b, off, rfl, h1, Nat.lt_of_lt_of_le h2 hk.size, fun k c hc => ?_⟩
    obtain ⟨cs, h4, h5⟩ := h3 k c hc
    exact ⟨cs, hf _ _ _ _ _ _ h4, h5.kept hk h2 (hn _ rfl)⟩
theorem Kept.set {X : Nat → Prop} {a b : World} (h : Kept X a b) {p : Addr} {u : Value} (hp : X p.block) : Kept X a (b.setCell p u) := h.trans (Kept.setCell b hp u) (fun _ _ h => h) (fun _ _ h => h)
theorem Kept.new {X : Nat → Prop} {a b : World} (h : Kept X a b) {o : Obj} : Kept X a (b.alloc o) := h.trans (Kept.alloc X b o) (fun _ _ h => h) (fun _ _ h => h)
theorem Kept.step {X : Nat → Prop} {a b c : World} (h : Kept X a b) (k : Below b.heap.size b c) : Kept X a c := h.trans (Kept.of_below k X) (fun _ _ h => h) (fun _ _ h => h)
theorem Kept.wide {X Y : Nat → Prop} {a b : World} (h : Kept X a b) (hy : ∀ k, k < a.heap.size → X k → Y k) : Kept Y a b := ⟨h.os, h.tape, h.output, h.size, fun k hk hn => h.block k hk (fun x => hn (hy k hk x))⟩
theorem own_made2 {α : Type} (r : Rd α) (S : Nat → Prop) (w : World) (base g : Nat) (e : TypeId) (hb : base ≤ w.heap.size) (hg : g = w.heap.size) : Own r S (w.alloc (.cells #[] e)) base e (.slice (some ⟨g, 0, none⟩) 0 0) [] := by
  subst hg; exact own_made r S w base e hb
/-- A slice's header alone: how long it is. -/
def Rd.hdr : Rd Nat where
  n := 1
  rel _ _ cs n := ∃ ao cap, cs = [.slice ao n cap]
  len := by rintro _ w cs a ⟨_, _, rfl⟩; rfl
  mono := fun _ _ _ _ _ h _ => h
  kept := fun _ _ _ _ _ _ h _ _ => h
theorem Rd.at_hdr {P : Program} {t e : TypeId} (ht : P.underlying t = some (.slice e)) (hc : P.cellsOf t = 1) : Rd.hdr.at P t := by
  refine ⟨hc, fun H enc w held fuel cs x h _ => ?_⟩
  rcases open_slice ht h with ⟨rfl, _⟩ | ⟨a, len, cap, m, n, D, Pl, rfl, _⟩
  · exact ⟨0, none, 0, rfl⟩
  · exact ⟨len, _, _, rfl⟩
/-! ### A region that draws its order, whose operations read what is old, and whose callees leave what is old -/
structure Bel (w : World) where
  w' : World
  below : Below w.heap.size w w'
instance bel_one (w : World) : Nonempty (Bel w) := ⟨⟨w, Below.refl _ w⟩⟩
theorem wp_region_bel {P : Program} {id : Nat} {Q : Exit → Act → World → Prop} {a : Act} {w : World} {l : List Oper} (hm : P.follows .mixedOrders = true) (hB : Region.lexB .any l.toArray = true)
    (h : wpQuiet P l.toArray (fun w' => ∃ x : Bel w, w' = x.w') (fun a' => ∀ w', (∃ x : Bel w, w' = x.w') → Q .normal a' w') l a) : (Code.region id l.toArray true).wp P Q a w :=
  wp_region_quiet (C := fun w' => ∃ x : Bel w, w' = x.w') hm hB ⟨⟨w.drew, (Below.refl _ w).drew⟩, rfl⟩ (by simpa using h)
theorem Bel.cell {w : World} (x : Bel w) {b o : Nat} {v : Value} (h : w.cell? ⟨b, o, none⟩ = some v) (hb : b < w.heap.size) : x.w'.cell? ⟨b, o, none⟩ = some v := (x.below.cell (p := ⟨b, o, none⟩) hb).trans h
theorem Bel.call {P : Program} {f : FuncId} {args : Array Value} {w : World} {x : Bel w} {v : Value} (h : Calls P f args x.w' (BelowPost v x.w')) : Calls P f args x.w' (fun e w'' => e = .returned v ∧ ∃ y : Bel w, w'' = y.w') :=
  h.mono fun e w'' ⟨he, hb⟩ => ⟨he, ⟨w'', chain x.below hb⟩, rfl⟩
end Lift
