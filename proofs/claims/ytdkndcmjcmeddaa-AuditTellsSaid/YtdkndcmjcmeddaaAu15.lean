/- Audit: program and document say the same. -/
import Derived.Test.YtdkndcmjcmeddaaAu14
namespace Go.Proofs.Ytdkndcmjcmeddaa
open Go.RowKit Lift
set_option linter.unusedSimpArgs false
set_option linter.unusedVariables false

theorem ris_pair : ∀ (l : List Int) (a : Int), risL a l = true → (∀ x ∈ l, a < x) ∧ l.Pairwise (· < ·)
  | [], a, _ => ⟨by simp, .nil⟩
  | n :: r, a, h => by
    unfold risL at h
    split at h
    · exact absurd h (by simp)
    · rename_i hn
      obtain ⟨h1, h2⟩ := ris_pair r n h
      refine ⟨?_, List.pairwise_cons.2 ⟨h1, h2⟩⟩
      intro x hx
      rcases List.mem_cons.1 hx with rfl | hx
      · omega
      · have := h1 x hx; omega
theorem inB_map (l : List Ent) (n : Int) : inB (l.map (·.1)) n = oneB l n := by
  unfold inB oneB
  rw [List.any_map]; rfl
theorem times_any (l : List Rec) (c : Rec) : l.any (hit c) = decide (0 < c.2.2.2.2.1 ∧ 0 < times l c.2.2.2.2.1) := by
  induction l with
  | nil => simp [times]
  | cons d r ih =>
    rw [List.any_cons, ih]
    unfold times hit
    rw [List.filter_cons]
    by_cases h0 : 0 < c.2.2.2.2.1
    · by_cases h : c.2.2.2.2.1 = d.2.2.2.2.1
      · have h0' : 0 < d.2.2.2.2.1 := h ▸ h0
        simp [h, h0']
      · have h' : ¬ d.2.2.2.2.1 = c.2.2.2.2.1 := fun e => h e.symm
        simp [h0, h, h']
    · simp [h0]
theorem twF_eq : ∀ (l pre : List Rec), twF pre l = twL pre l
  | [], pre => rfl
  | c :: r, pre => by
    unfold twF twL
    rw [twF_eq r, times_any]
    by_cases h : 0 < c.2.2.2.2.1 ∧ 0 < times pre c.2.2.2.2.1
    · rw [if_pos h]; simp [h]
    · rw [if_neg h, decide_eq_false h]; rfl
theorem refE_eq (s : Sd) : refE s = soundE s := by
  unfold refE soundE twiceB
  rw [twF_eq]
  have h1 : (s.e.map (·.1)).any (fun n => inB (s.g.map (·.1)) n) = s.e.any (fun c => oneB s.g c.1) := by
    rw [List.any_map]; congr 1; funext c; exact inB_map _ _
  have h2 : (s.p.map (·.1)).any (fun n => !inB (s.e.map (·.1)) n && !inB (s.g.map (·.1)) n) = s.p.any (fun c => !oneB s.e c.1 && !oneB s.g c.1) := by
    rw [List.any_map]; congr 1; funext c; simp only [Function.comp, inB_map]
  rw [h1, h2]
/-- What sound sides are. -/
structure Snd (s : Sd) : Prop where
  e : (∀ x ∈ s.e.map (·.1), (0 : Int) < x) ∧ (s.e.map (·.1)).Pairwise (· < ·)
  r : (s.r.map (·.1)).Pairwise (· < ·)
  t : twF [] s.r = false
theorem snd_of (s : Sd) (h : soundE s = 0) : Snd s := by
  unfold soundE at h
  split at h
  · rename_i h1
    split at h
    · split at h
      · split at h
        · rename_i h4
          split at h
          · exact absurd h (by decide)
          · split at h
            · exact absurd h (by decide)
            · rename_i h6
              exact ⟨ris_pair _ _ h1, (ris_pair _ _ h4).2, by rw [twF_eq]; simpa [twiceB] using h6⟩
        · exact absurd h (by decide)
      · exact absurd h (by decide)
    · exact absurd h (by decide)
  · exact absurd h (by decide)
def cntE (e : List Ent) (x : Int) : Nat := (e.filter (fun c => decide (c.1 = x))).length
theorem cnt_one : ∀ (e : List Ent) (x : Int), (e.map (·.1)).Pairwise (· < ·) → cntE e x = if oneB e x then 1 else 0
  | [], x, _ => rfl
  | c :: r, x, h => by
    rw [List.map_cons, List.pairwise_cons] at h
    have ih := cnt_one r x h.2
    unfold cntE oneB at *
    rw [List.filter_cons, List.any_cons]
    by_cases hc : c.1 = x
    · have h0 : r.any (fun c => decide (c.1 = x)) = false := by
        rw [List.any_eq_false]
        intro d hd
        have := h.1 d.1 (List.mem_map_of_mem hd)
        simp; omega
      rw [h0] at ih
      simp [hc] at ih ⊢
      exact ih
    · rw [if_neg (by simpa using hc), decide_eq_false hc, Bool.false_or]; exact ih
theorem flat_cons (d : Rec) (rs : List Rec) : ∀ (e : List Ent), (flatR e (d :: rs)).length = (if d.2.1 then cntE e d.2.2.2.2.1 else 0) + (flatR e rs).length
  | [] => by simp [flatR, cntE]
  | c :: e => by
    have ih := flat_cons d rs e
    unfold flatR cntE hitsOf at *
    rw [List.flatMap_cons, List.flatMap_cons, List.length_append, List.length_append, ih, List.filter_cons, List.filter_cons]
    unfold isMate
    cases hv : d.2.1
    · simp
    · by_cases hc : c.1 = d.2.2.2.2.1
      · simp [hc]; omega
      · have hc' : ¬ d.2.2.2.2.1 = c.1 := fun e => hc e.symm
        simp [hc, hc']; omega
theorem flat_count (e : List Ent) (he : (e.map (·.1)).Pairwise (· < ·)) : ∀ rs : List Rec, (flatR e rs).length = (rs.filter (fun d => d.2.1 && oneB e d.2.2.2.2.1)).length
  | [] => by
    show (flatR e []).length = 0
    clear he
    induction e with
    | nil => rfl
    | cons c e ih => unfold flatR at *; rw [List.flatMap_cons]; simpa [hitsOf] using ih
  | d :: rs => by
    rw [flat_cons, flat_count e he rs, cnt_one e _ he, List.filter_cons]
    cases hv : d.2.1 <;> cases ho : oneB e d.2.2.2.2.1 <;> simp <;> omega
theorem live_all (e : List Ent) : ∀ rs : List Rec, (rs.filter (fun d => d.2.1 && oneB e d.2.2.2.2.1)).length ≤ living rs ∧
    (decide ((rs.filter (fun d => d.2.1 && oneB e d.2.2.2.2.1)).length = living rs) = rs.all (fun c => !c.2.1 || oneB e c.2.2.2.2.1))
  | [] => ⟨Nat.le_refl _, rfl⟩
  | d :: rs => by
    obtain ⟨h1, h2⟩ := live_all e rs
    unfold living at *
    rw [List.filter_cons, List.filter_cons, List.all_cons, ← h2]
    cases hv : d.2.1 <;> cases ho : oneB e d.2.2.2.2.1
    · exact ⟨h1, rfl⟩
    · exact ⟨h1, rfl⟩
    · refine ⟨by simp; omega, ?_⟩
      simp; omega
    · refine ⟨by simp; omega, ?_⟩
      simp
theorem tw_apart : ∀ (l pre : List Rec), twF pre l = false → ∀ c ∈ l, 0 < c.2.2.2.2.1 → ∀ d ∈ pre, c.2.2.2.2.1 ≠ d.2.2.2.2.1
  | [], _, _, c, hc => by simp at hc
  | x :: r, pre, h, c, hc => by
    unfold twF at h
    rw [Bool.or_eq_false_iff] at h
    intro h0 d hd
    rcases List.mem_cons.1 hc with rfl | hc
    · have := List.any_eq_false.1 h.1 d hd
      unfold hit at this
      simp [h0] at this
      exact this
    · exact tw_apart r _ h.2 c hc h0 d (by simp [hd])
theorem mate_filter (n : Int) (hn : 0 < n) : ∀ (l pre : List Rec), twF pre l = false → l.filter (isMate n) = (mateL l n).toList
  | [], _, _ => rfl
  | c :: r, pre, h => by
    have h' := h
    unfold twF at h
    rw [Bool.or_eq_false_iff] at h
    unfold mateL
    rw [List.filter_cons, List.find?_cons]
    cases hm : isMate n c with
    | false => simpa [mateL] using mate_filter n hn r _ h.2
    | true =>
      have hc : c.2.2.2.2.1 = n := by unfold isMate at hm; simp at hm; exact hm.2
      have : r.filter (isMate n) = [] := by
        rw [List.filter_eq_nil_iff]
        intro d hd hm2
        have hdn : d.2.2.2.2.1 = n := by unfold isMate at hm2; simp at hm2; exact hm2.2
        exact tw_apart r _ h.2 d hd (by omega) c (by simp) (by omega)
      simp [this]
theorem hits_mate (l : List Rec) (n : Int) (hn : 0 < n) (h : twF [] l = false) : hitsOf n l = (mateL l n).toList.map (fun d => (n, d.1)) := by
  unfold hitsOf
  rw [mate_filter n hn l [] h]
  cases hm : mateL l n with
  | none => rfl
  | some d =>
    have : isMate n d = true := List.find?_some hm
    have hd : d.2.2.2.2.1 = n := by unfold isMate at this; simp at this; exact this.2
    simp [hd]
theorem flat_all (rs : List Rec) (h : twF [] rs = false) : ∀ e : List Ent, (∀ x ∈ e.map (·.1), (0 : Int) < x) →
    (flatR e rs).length ≤ e.length ∧ (decide ((flatR e rs).length = e.length) = e.all (fun x => (mateL rs x.1).isSome)) ∧ ((flatR e rs).length = e.length → flatR e rs = e.map (fun x => (x.1, ((mateL rs x.1).getD zRec).1)))
  | [], _ => ⟨Nat.le_refl _, rfl, fun _ => rfl⟩
  | c :: e, he => by
    obtain ⟨h1, h2, h3⟩ := flat_all rs h e (fun x hx => he x (by simp at hx ⊢; exact .inr hx))
    have hh := hits_mate rs c.1 (he c.1 (by simp)) h
    have hf : flatR (c :: e) rs = hitsOf c.1 rs ++ flatR e rs := by unfold flatR; rw [List.flatMap_cons]
    rw [hf, hh, List.all_cons, ← h2]
    cases hm : mateL rs c.1 with
    | none =>
      refine ⟨by simp; omega, by simp; omega, ?_⟩
      intro h4
      simp at h4; omega
    | some d =>
      refine ⟨by simp; omega, by simp, ?_⟩
      intro h4
      simp at h4
      simp [h3 h4, hm]
theorem ok_eq (s : Sd) : okR s = okM s := by
  unfold okR okM
  rw [refE_eq]
  by_cases h : soundE s = 0
  · have hs := snd_of s h
    obtain ⟨_, h2, _⟩ := flat_all s.r hs.t s.e hs.e.1
    rw [h2, flat_count s.e hs.e.2, (live_all s.e s.r).2, Bool.and_assoc]
  · rw [decide_eq_false h]; rfl
theorem mates_eq (s : Sd) : matesR s = matesL s := by
  unfold matesR matesL
  rw [ok_eq]
  cases h : okM s with
  | false => rfl
  | true =>
    have hr : okR s = true := by rw [ok_eq]; exact h
    unfold okR at hr
    rw [refE_eq] at hr
    simp only [Bool.and_eq_true, decide_eq_true_eq] at hr
    have hs := snd_of s hr.1
    obtain ⟨_, _, h3⟩ := flat_all s.r hs.t s.e hs.e.1
    simp only [if_true]
    rw [h3 hr.2.1]; rfl
theorem guid_any (P : Rec → Bool) : ∀ (l : List Rec) (d : Rec), (l.map (·.1)).Pairwise (· < ·) → d ∈ l → l.any (fun x => decide (x.1 = d.1) && P x) = P d
  | [], d, _, hd => by simp at hd
  | c :: r, d, h, hd => by
    rw [List.map_cons, List.pairwise_cons] at h
    rw [List.any_cons]
    rcases List.mem_cons.1 hd with rfl | hd
    · have : r.any (fun x => decide (x.1 = d.1) && P x) = false := by
        rw [List.any_eq_false]
        intro x hx
        have := h.1 x.1 (List.mem_map_of_mem hx)
        simp; intro e; omega
      rw [this]; simp
    · have hlt := h.1 d.1 (List.mem_map_of_mem hd)
      rw [guid_any P r d h.2 hd]
      have : ¬ c.1 = d.1 := by omega
      simp [this]
theorem loop_eq (s : Sd) (hg : (s.r.map (·.1)).Pairwise (· < ·)) : ∀ e : List Ent, e.all (fun x => (mateL s.r x.1).isSome) = true → loopR (e.map (mtOf s)) e s.r = !e.any (differs s)
  | [], _ => rfl
  | c :: e, h => by
    rw [List.all_cons, Bool.and_eq_true] at h
    rw [List.map_cons, List.any_cons]
    unfold loopR
    rw [loop_eq s hg e h.2]
    have : s.r.any (badAt (mtOf s c) c) = differs s c := by
      cases hm : mateL s.r c.1 with
      | none => rw [hm] at h; exact absurd h.1 (by simp)
      | some d =>
        have := guid_any (fun x => !(x.2.2.2.1.toList == c.2.2.2.toList)) s.r d hg (List.mem_of_find?_eq_some hm)
        have e1 : s.r.any (badAt (mtOf s c) c) = s.r.any (fun x => decide (x.1 = d.1) && !(x.2.2.2.1.toList == c.2.2.2.toList)) := by
          congr 1; funext x; unfold badAt mtOf; rw [hm]; rfl
        rw [e1, this]
        unfold differs
        rw [hm, str_eq]; rfl
    rw [this]; simp
theorem pend_eq (s : Sd) : pendR s = pendB s := by
  unfold pendR pendB
  cases decide (0 < (s.g.length : Int)) <;> cases decide (0 < (s.p.length : Int)) <;> cases s.e.any (fun c => decide (0 < c.2.1)) <;> cases s.r.any isDue <;> rfl
theorem conv_eq (s : Sd) (last anchor : Int) : convR s last anchor = convB s last anchor := by
  unfold convR convB
  rw [ok_eq, pend_eq, mates_eq]
  cases h : okM s with
  | false => rfl
  | true =>
    have h' := h
    unfold okM at h'
    simp only [Bool.and_eq_true, decide_eq_true_eq] at h'
    have hs := snd_of s h'.1.1
    unfold matesL
    rw [if_pos h, loop_eq s hs.r s.e h'.1.2]
    by_cases h1 : 0 < last
    · have h2 : ¬ last < 1 := by omega
      rw [decide_eq_false h2, decide_eq_true h1]
      cases pendB s <;> cases decide (last = anchor) <;> simp
    · have h2 : last < 1 := by omega
      rw [decide_eq_true h2, decide_eq_false h1]
      simp
end Go.Proofs.Ytdkndcmjcmeddaa
