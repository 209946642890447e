/- Regions whose order is drawn, inside a round: each operation leaves a fact on its own slot, one of them a value that goes with the memory, and one operation comes last (no program in sight). -/
import Derived.Test.YtdebfnlnpfienaaGreatDoorOrdEach
import Derived.OrdersIn
import Derived.RangeFuncCalls
namespace Lift
open Go Go.RowKit
set_option linter.unusedSimpArgs false
set_option linter.unusedVariables false

theorem op_in_round {l n : Nat} {P : Program} {o : Oper} {a : Act} {w : World} {K : Act → World → Prop} {Q : Exit → Act → World → Prop} (h : ∀ c, o.op ≠ .defer c) (hw : o.wp P a w K Q) : o.wpIn (Fence.wide.inRound l) n P a w K Q := by
  unfold Oper.wpIn
  refine ⟨fun _ _ => trivial, ?_⟩
  rw [Oper.semAt_eq _ _ _ h]
  unfold Oper.wp at hw
  generalize (execOp a.eval o).run P w = r at *
  cases r with
  | ok x w' =>
    cases x with
    | value v => exact hw
    | skip => exact hw
    | defer d => exact hw
    | enter f args => exact ⟨fun h => by simp [Fence.wide] at h, CallsIn.inRound l (callsIn_wide.2 hw)⟩
    | row s args => exact ⟨fun h => by simp [Fence.wide] at h, fun c cs _ => let ⟨v, w', r, s⟩ := hw c cs; ⟨v, w', r, stepsIn_wide.2 s⟩⟩
    | _ => exact hw.elim
  | halt x w' => cases x <;> exact hw
theorem wpAnyIn_inv {F : Fence} {n : Nat} {P : Program} {ops : Array Oper} {Q : Exit → Act → World → Prop} {Inv : Array Bool → Act → World → Prop} (hsz : ∀ l a w, Inv l a w → l.size = ops.size)
    (hord : ∀ (i : Nat) o, ops[i]? = some o → ∀ e ∈ o.after.toList, e.on < i)
    (hstep : ∀ l a w i, Inv l a w → i ∈ Region.ready .any ops l → wpOpIn F n P ops Q i (fun a' w' => Inv (l.setIfInBounds i true) a' w') a w)
    (hfin : ∀ l a w, Inv l a w → (∀ i, i < ops.size → l.getD i false = true) → Q .normal a w) :
    ∀ (fuel : Nat) (l : Array Bool) (a : Act) (w : World), cntF l ≤ fuel → Inv l a w → wpAnyIn F n P .any ops Q fuel l a w
  | 0, l, a, w, hc, hI => by
    have hr : Region.ready .any ops l = [] := by
      refine List.eq_nil_iff_forall_not_mem.2 fun i hi => ?_
      obtain ⟨h1, h2, _⟩ := ready_iff.1 hi
      have := cntF_set (by rw [hsz _ _ _ hI]; exact h1) h2
      omega
    exact ⟨hr, hfin l a w hI (all_listed (hsz _ _ _ hI) hord hr)⟩
  | fuel + 1, l, a, w, hc, hI => ⟨fun hr => hfin l a w hI (all_listed (hsz _ _ _ hI) hord hr), fun i hi => by
      obtain ⟨h1, h2, _⟩ := ready_iff.1 hi
      have := cntF_set (by rw [hsz _ _ _ hI]; exact h1) h2
      exact wpOpIn_mono (fun a' w' h => wpAnyIn_inv hsz hord hstep hfin fuel _ a' w' (by omega) h) (hstep l a w i hI hi)⟩
theorem set_at {l : Array Bool} {i j : Nat} (hi : i < l.size) : (l.setIfInBounds i true).getD j false = if j = i then true else l.getD j false := by
  simp only [Array.getD_eq_getD_getElem?, Array.getElem?_setIfInBounds]
  by_cases h : i = j
  · subst h; simp [hi]
  · rw [if_neg h, if_neg (fun e => h e.symm)]
theorem ups_of {ops : Array Oper} {N : Nat} (h : ((List.range N).all fun i => ops.toList.any fun o => o.after.toList.any fun e => Region.binds .any e && e.on == i) = true) : ∀ i, i < N → ∃ (j : Nat) (o : Oper) (e : Edge), ops[j]? = some o ∧ e ∈ o.after.toList ∧ Region.binds .any e = true ∧ e.on = i := by
  intro i hi
  have h1 := List.all_eq_true.1 h i (by simpa using hi)
  obtain ⟨o, ho, h2⟩ := List.any_eq_true.1 h1
  obtain ⟨e, he, h3⟩ := List.any_eq_true.1 h2
  obtain ⟨j, hj⟩ := List.mem_iff_getElem?.1 ho
  simp only [Bool.and_eq_true, beq_iff_eq] at h3
  exact ⟨j, o, e, by simpa using hj, he, h3.1, h3.2⟩
theorem wpIn_region_last {l0 n : Nat} {P : Program} {id : Nat} {ops : Array Oper} {Q : Exit → Act → World → Prop} {a0 : Act} {w0 : World} (hm : P.follows .mixedOrders = true) (N : Nat) (hN : ops.size = N + 1) (m : Nat)
    (S : Array Bool → Value → World → Prop) (R : Nat → Value → Prop) (slot : Nat → Nat)
    (hd : ∀ (i : Nat) o, i < N → ops[i]? = some o → o.dst = some (slot i) ∧ o.guard = none ∧ slot i < a0.tmps.size ∧ ∀ c, o.op ≠ .defer c)
    (inj : ∀ i j, i < N → j ≤ N → slot i = slot j → i = j) (hmN : m ≤ N)
    (hord : ∀ (i : Nat) o, ops[i]? = some o → ∀ e ∈ o.after.toList, e.on < i)
    (hup : ∀ i, i < N → ∃ (j : Nat) (o : Oper) (e : Edge), ops[j]? = some o ∧ e ∈ o.after.toList ∧ Region.binds .any e = true ∧ e.on = i)
    (hlast : ∀ o, ops[N]? = some o → o.guard = none ∧ ∀ c, o.op ≠ .defer c)
    (hS0 : S (Array.replicate ops.size false) (a0.tmps.getD (slot m) undef) w0.drew)
    (hop : ∀ (i : Nat) o, i < N → ops[i]? = some o → ∀ (l : Array Bool) (a : Act) (w : World), l.size = ops.size → S l (a.tmps.getD (slot m) undef) w → Rest N slot a0 a → l.getD i false = false → (∀ (j : Nat) oj, j < N → ops[j]? = some oj → l.getD j false = true → ∀ e ∈ oj.after.toList, Region.binds .any e = true → l.getD e.on false = true) → (∀ e ∈ o.after.toList, Region.binds .any e = true → l.getD e.on false = true ∧ R e.on (a.tmps.getD (slot e.on) undef)) → ∀ K : Act → World → Prop, (∀ v w', S (l.setIfInBounds i true) (if i = m then v else a.tmps.getD (slot m) undef) w' → R i v → K (a.put (some (slot i)) v) w') → o.wp P a w K Q)
    (hfin : ∀ o l a w, ops[N]? = some o → S l (a.tmps.getD (slot m) undef) w → (∀ i, i < N → l.getD i false = true) → a.defers = a0.defers → a.tmps.size = a0.tmps.size → Rest N slot a0 a → (∀ i, i < N → R i (a.tmps.getD (slot i) undef)) → o.wp P a w (Q .normal) Q) :
    (Code.region id ops true).wpIn (Fence.wide.inRound l0) n P Q a0 w0 := by
  refine wpIn_region_any hm ?_
  have hNop : ∃ oN, ops[N]? = some oN := ⟨ops[N], by simp [hN]⟩
  refine wpAnyIn_inv (Inv := fun l a w => l.size = ops.size ∧ ((l.getD N false = false ∧ S l (a.tmps.getD (slot m) undef) w ∧ a.defers = a0.defers ∧ a.tmps.size = a0.tmps.size ∧ Rest N slot a0 a ∧ (∀ (i : Nat) o, i < N → ops[i]? = some o → l.getD i false = true → ∀ e ∈ o.after.toList, Region.binds .any e = true → l.getD e.on false = true) ∧ ∀ i, i < N → l.getD i false = true → R i (a.tmps.getD (slot i) undef)) ∨ ((∀ i, i < ops.size → l.getD i false = true) ∧ Q .normal a w))) (fun l a w h => h.1) hord ?_ ?_ _ _ _ _ ?_ ?_
  · rintro l a w i ⟨hs, ⟨hlN, hS, hdf, htm, hr, hcl, hR⟩ | ⟨hall, _⟩⟩ hi
    · obtain ⟨h1, h2, o, ho, h3⟩ := ready_iff.1 hi
      have h2' : l.getD i false = false := by rw [← getD_true hs h1]; exact h2
      have hil : i < l.size := by omega
      by_cases hiN : i < N
      · obtain ⟨d1, d2, d3, d4⟩ := hd i o hiN ho
        unfold wpOpIn
        simp only [ho]
        have hw : Region.wanted o (yielded ops a.tmps) = true := by simp [Region.wanted, d2]
        rw [if_pos hw]
        refine op_in_round d4 (hop i o hiN ho l a w hs hS hr h2' hcl (fun e he hb => ?_) _ (fun v w' hS' hRv => ⟨by simpa using hs, .inl ⟨?_, ?_, ?_, ?_, ?_, ?_, ?_⟩⟩))
        · have hlt := hord i o ho e he
          have hle := h3 e he hb
          exact ⟨hle, hR e.on (by omega) hle⟩
        · rw [set_at hil, if_neg (by omega)]; exact hlN
        · rw [put_at (by omega)]
          by_cases him : i = m
          · subst him; rw [if_pos rfl] at hS' ⊢; exact hS'
          · rw [if_neg him] at hS'
            rw [if_neg (fun e => him (inj i m hiN hmN e.symm))]
            exact hS'
        · exact hdf
        · simp only [Act.put, Array.size_setIfInBounds]; exact htm
        · intro t ht
          rw [put_at (by omega), if_neg (fun e => ht i hiN e.symm)]
          exact hr t ht
        · intro j oj hj hoj hlj e he hb
          rw [set_at hil] at hlj ⊢
          by_cases hji : j = i
          · subst hji
            rw [hoj] at ho; cases ho
            split
            · rfl
            · exact h3 e he hb
          · rw [if_neg hji] at hlj
            split
            · rfl
            · exact hcl j oj hj hoj hlj e he hb
        · intro j hj hlj
          rw [put_at (by omega)]
          rw [set_at hil] at hlj
          by_cases hji : j = i
          · subst hji; rw [if_pos rfl]; exact hRv
          · rw [if_neg (fun e => hji (inj j i hj (by omega) e))]
            rw [if_neg hji] at hlj
            exact hR j hj hlj
      · obtain rfl : i = N := by omega
        obtain ⟨d2, d4⟩ := hlast o ho
        have hall : ∀ k j, i - j = k → j < i → l.getD j false = true := by
          intro k
          induction k using Nat.strongRecOn with
          | ind k ih =>
            intro j hjk hj
            obtain ⟨j2, o2, e2, ho2, he2, hb2, hon⟩ := hup j hj
            have hlt := hord j2 o2 ho2 e2 he2
            have hj2 : j2 < ops.size := (Array.getElem?_eq_some_iff.1 ho2).1
            subst hon
            by_cases hj2i : j2 = i
            · subst hj2i
              rw [ho2] at ho; cases ho
              exact h3 e2 he2 hb2
            · exact hcl j2 o2 (by omega) ho2 (ih (i - j2) (by omega) j2 rfl (by omega)) e2 he2 hb2
        unfold wpOpIn
        simp only [ho]
        have hw : Region.wanted o (yielded ops a.tmps) = true := by simp [Region.wanted, d2]
        rw [if_pos hw]
        refine op_in_round d4 ?_
        have hf := hfin o l a w ho hS (fun j hj => hall _ j rfl hj) hdf htm hr (fun j hj => hR j hj (hall _ j rfl hj))
        refine Oper.wp_mono (fun a' w' hq => ⟨by simpa using hs, .inr ⟨fun j hj => ?_, hq⟩⟩) hf
        rw [set_at hil]
        split
        · rfl
        · exact hall _ j rfl (by omega)
    · exfalso
      obtain ⟨h1, h2, _⟩ := ready_iff.1 hi
      have h2' : l.getD i false = false := by rw [← getD_true hs h1]; exact h2
      rw [hall i h1] at h2'
      cases h2'
  · rintro l a w ⟨hs, ⟨hlN, _⟩ | ⟨_, hq⟩⟩ hall
    · rw [hall N (by omega)] at hlN; cases hlN
    · exact hq
  · have : cntF (Array.replicate ops.size false) ≤ ops.size := by
      unfold cntF
      simp
    exact this
  · refine ⟨by simp, .inl ⟨?_, hS0, rfl, rfl, fun _ _ => rfl, fun i o hi _ h => ?_, fun i hi h => ?_⟩⟩
    · simp [Array.getD, hN]
    · exfalso; revert h; simp [Array.getD, hN, Nat.lt_succ_of_lt hi]
    · exfalso; revert h; simp [Array.getD, hN, Nat.lt_succ_of_lt hi]
end Lift
