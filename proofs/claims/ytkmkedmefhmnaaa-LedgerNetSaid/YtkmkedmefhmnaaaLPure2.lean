/- What is net is enough; trimmed twice is trimmed once (no program in sight). -/
import Derived.Test.YtkmkedmefhmnaaaLChk
import Derived.Test.YtkmkedmefhmnaaaLNet
namespace Go.Proofs.Ytkmkedmefhmnaaa
open Go.RowKit Lift

def Kinds (l : List Chg) : Prop := ∀ c ∈ l, c.2.2 = 1 ∨ c.2.2 = 2
def verd (x : Int) : List Chg → Option Bool
  | [] => none
  | c :: r => (verd x r).or (if c.2.1 = x then some (decide (c.2.2 = 1)) else none)
theorem mem_fold (x : Int) : ∀ (l : List Chg) (s : List Int), Kinds l → (x ∈ l.foldl stepL s ↔ (verd x l).getD (decide (x ∈ s)) = true)
  | [], s, _ => by simp [verd]
  | c :: r, s, hk => by
    rw [List.foldl_cons, mem_fold x r _ (fun d hd => hk d (by simp [hd])), verd]
    cases hv : verd x r with
    | some b => simp
    | none =>
      have h0 := hk c (by simp)
      simp only [Option.getD_none, Option.none_or, decide_eq_true_eq]
      rw [mem_step]
      by_cases h1 : c.2.1 = x
      · subst h1
        rcases h0 with h0 | h0 <;> simp [h0]
      · rw [if_neg (by simp [Ne.symm h1]), if_neg (by simp [Ne.symm h1])]; simp [h1]
theorem verd_later {c : Chg} : ∀ {r : List Chg}, later c r = true → (verd c.2.1 r).isSome = true
  | [], h => by simp [later] at h
  | d :: r, h => by
    rw [verd]
    by_cases h1 : later c r = true
    · have := verd_later h1
      cases hv : verd c.2.1 r with
      | none => rw [hv] at this; cases this
      | some b => simp
    · have h2 : d.2.1 = c.2.1 := by
        unfold later at h h1
        rw [List.any_cons] at h
        rcases Bool.or_eq_true_iff.1 h with h | h
        · simpa using h
        · exact absurd h h1
      cases hv : verd c.2.1 r <;> simp [h2]
theorem verd_trim (x : Int) : ∀ l : List Chg, verd x (trimL l) = verd x l
  | [] => rfl
  | c :: r => by
    rw [trimL]
    by_cases h : later c r = true
    · rw [if_pos h, verd_trim x r, verd]
      by_cases e : c.2.1 = x
      · subst e
        have := verd_later h
        cases hv : verd c.2.1 r with
        | none => rw [hv] at this; cases this
        | some b => simp
      · cases hv : verd x r <;> simp [e]
    · rw [if_neg h, verd, verd, verd_trim x r]
theorem trim_sub : ∀ l : List Chg, (trimL l).Sublist l
  | [] => List.Sublist.slnil
  | c :: r => by
    rw [trimL]
    split
    · exact (trim_sub r).cons _
    · exact (trim_sub r).cons_cons _
theorem fold_ext {l m : List Chg} {s t : List Int} (hl : Kinds l) (hm : Kinds m) (hs : s.Pairwise (· < ·)) (ht : t.Pairwise (· < ·)) (hv : ∀ x, verd x l = verd x m) (hst : ∀ x, x ∈ s ↔ x ∈ t) : l.foldl stepL s = m.foldl stepL t := by
  refine up_ext (foldl_ind (p := fun s : List Int => s.Pairwise (· < ·)) (fun _ c h => up_step c h) l _ hs) (foldl_ind (p := fun s : List Int => s.Pairwise (· < ·)) (fun _ c h => up_step c h) m _ ht) (fun x => ?_)
  rw [mem_fold x l s hl, mem_fold x m t hm, hv x]
  have : decide (x ∈ s) = decide (x ∈ t) := by simp [hst x]
  rw [this]
theorem apply_trim (ids : List Int) {l : List Chg} (hk : Kinds l) : applyL ids (trimL l) = applyL ids l :=
  fold_ext (fun c hc => hk c ((trim_sub l).subset hc)) hk (up_ids _) (up_ids _) (verd_trim · l) (fun _ => Iff.rfl)
def earlyL (since : Int) (l : List Chg) : List Chg := l.filter fun c => decide (c.1 ≤ since)
def Grow (l : List Chg) : Prop := l.Pairwise fun c d => c.1 < d.1
theorem split_since (since : Int) : ∀ {l : List Chg}, Grow l → earlyL since l ++ l.filter (fun c => decide (since < c.1)) = l
  | [], _ => rfl
  | c :: r, h => by
    obtain ⟨h1, h2⟩ := List.pairwise_cons.1 h
    have ih := split_since since h2
    by_cases e : c.1 ≤ since
    · unfold earlyL at ih ⊢
      rw [List.filter_cons_of_pos (by simpa using e), List.filter_cons_of_neg (by simpa using e), List.cons_append, ih]
    · have hr : ∀ d ∈ r, ¬ d.1 ≤ since := fun d hd => by have := h1 d hd; omega
      unfold earlyL
      rw [List.filter_cons_of_neg (by simpa using e), List.filter_cons_of_pos (by simp; omega), List.filter_eq_nil_iff.2 (fun d hd => by simpa using hr d hd), List.nil_append, List.filter_eq_self.2 (fun d hd => by have := hr d hd; simp; omega)]
theorem apply_net (ids : List Int) (since : Int) {l : List Chg} (hk : Kinds l) (hg : Grow l) : applyL (applyL ids (earlyL since l)) (netL since l) = applyL ids l := by
  have hsub : ∀ c ∈ l.filter (fun c => decide (since < c.1)), c.2.2 = 1 ∨ c.2.2 = 2 := fun c hc => hk c (List.mem_filter.1 hc).1
  have h1 : applyL ids l = (l.filter (fun c => decide (since < c.1))).foldl stepL (applyL ids (earlyL since l)) := by
    conv => lhs; rw [← split_since since hg]
    unfold applyL; rw [List.foldl_append]
  rw [h1]
  exact fold_ext (fun c hc => hsub c ((trim_sub _).subset hc)) hsub (up_ids _) (up_apply _ _) (fun x => verd_trim x _) (fun x => ids_mem)
def Fine (c : Chg) : Prop := ¬ (c.1 < 1 ∨ 268435456 < c.1 ∨ c.2.1 < 1 ∨ 268435456 < c.2.1) ∧ (c.2.2 = 1 ∨ c.2.2 = 2)
theorem chk_ok : ∀ (l : List Chg) (p : Option Int), chk p l = 0 ↔ (∀ c ∈ l, Fine c) ∧ Grow l ∧ ∀ v, p = some v → ∀ c ∈ l, v < c.1
  | [], p => by simp [chk, Grow]
  | c :: r, p => by
    have ih := chk_ok r (some c.1)
    have ht : (Grow (c :: r)) ↔ (∀ d ∈ r, c.1 < d.1) ∧ Grow r := List.pairwise_cons
    have hih : chk (some c.1) r = 0 ↔ (∀ d ∈ r, Fine d) ∧ Grow (c :: r) := by
      rw [ih, ht]
      constructor
      · rintro ⟨h1, h2, h3⟩; exact ⟨h1, h3 _ rfl, h2⟩
      · rintro ⟨h1, h2, h3⟩; exact ⟨h1, h3, fun v hv => by cases hv; exact h2⟩
    rw [chk_eq]
    by_cases h1 : c.1 < 1 ∨ 268435456 < c.1 ∨ c.2.1 < 1 ∨ 268435456 < c.2.1
    · rw [if_pos h1]
      constructor
      · intro h; omega
      · rintro ⟨h, _⟩; exact absurd h1 (h c (by simp)).1
    · rw [if_neg h1]
      by_cases h2 : c.2.2 ≠ 1 ∧ c.2.2 ≠ 2
      · rw [if_pos h2]
        constructor
        · intro h; omega
        · rintro ⟨h, _⟩; have := (h c (by simp)).2; omega
      · rw [if_neg h2]
        have hf : Fine c := ⟨h1, by omega⟩
        have hall : (∀ d ∈ c :: r, Fine d) ↔ ∀ d ∈ r, Fine d := by simp [hf]
        rw [hall]
        cases p with
        | none => simp only [hih]; simp
        | some v =>
          dsimp only
          by_cases h3 : c.1 ≤ v
          · rw [if_pos h3]
            constructor
            · intro h; omega
            · rintro ⟨_, _, h⟩; have := h v rfl c (by simp); omega
          · rw [if_neg h3, hih]
            constructor
            · rintro ⟨h4, h5⟩
              refine ⟨h4, h5, fun u hu d hd => ?_⟩
              cases hu
              rcases List.mem_cons.1 hd with rfl | hd
              · omega
              · have := (ht.1 h5).1 d hd; omega
            · rintro ⟨h4, h5, _⟩; exact ⟨h4, h5⟩
theorem chkL_ok {l : List Chg} (h : chkL l = 0) : l.length ≤ 2000 ∧ Kinds l ∧ Grow l ∧ chkL (trimL l) = 0 := by
  unfold chkL at h ⊢
  by_cases hl : 2000 < l.length
  · rw [if_pos hl] at h; omega
  · rw [if_neg hl] at h
    obtain ⟨h1, h2, h3⟩ := (chk_ok l none).1 h
    have := trimL_len l
    rw [if_neg (by omega)]
    exact ⟨by omega, fun c hc => (h1 c hc).2, h2, (chk_ok _ none).2 ⟨fun c hc => h1 c ((trim_sub l).subset hc), h2.sublist (trim_sub l), fun v hv => by cases hv⟩⟩
theorem later_trim (c : Chg) : ∀ r : List Chg, later c (trimL r) = later c r
  | [] => rfl
  | d :: r => by
    rw [trimL]
    have ih := later_trim c r
    have h0 : later c (d :: r) = ((d.2.1 == c.2.1) || later c r) := by unfold later; simp
    by_cases h : later d r = true
    · rw [if_pos h, ih, h0]
      by_cases e : d.2.1 = c.2.1
      · have : later c r = later d r := by unfold later; rw [e]
        rw [this, h]; simp
      · simp [e]
    · rw [if_neg h, h0, ← ih]
      unfold later; simp
theorem trim_trim : ∀ l : List Chg, trimL (trimL l) = trimL l
  | [] => rfl
  | c :: r => by
    have ih := trim_trim r
    by_cases h : later c r = true
    · rw [trimL, if_pos h, ih]
    · have h2 : trimL (c :: r) = c :: trimL r := by rw [trimL, if_neg h]
      rw [h2, trimL, later_trim, if_neg h, ih]
theorem net_trim (since : Int) : ∀ {l : List Chg}, Grow l → netL since (trimL l) = netL since l
  | [], _ => rfl
  | c :: r, hg => by
    obtain ⟨h1, h2⟩ := List.pairwise_cons.1 hg
    have ih := net_trim since h2
    by_cases e : since < c.1
    · have hall : ∀ d ∈ c :: r, decide (since < d.1) = true := by
        intro d hd
        rcases List.mem_cons.1 hd with rfl | hd
        · simpa using e
        · have := h1 d hd; simp; omega
      unfold netL
      rw [List.filter_eq_self.2 hall, List.filter_eq_self.2 (fun d hd => hall d ((trim_sub _).subset hd)), trim_trim]
    · unfold netL at ih ⊢
      rw [List.filter_cons_of_neg (by simpa using e), ← ih, trimL]
      split
      · rfl
      · rw [List.filter_cons_of_neg (by simpa using e)]
end Go.Proofs.Ytkmkedmefhmnaaa
