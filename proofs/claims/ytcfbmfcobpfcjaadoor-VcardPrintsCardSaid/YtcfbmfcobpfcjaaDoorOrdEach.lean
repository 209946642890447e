/- Regions whose order is drawn: each operation leaves a fact on its own slot, whatever the order (no program in sight). -/
import Derived.Test.YtcfbmfcobpfcjaaDoorRd2
import Derived.RegionTactic
import Derived.BigQuiet
namespace Lift
open Go Go.RowKit
set_option linter.unusedSimpArgs false
set_option linter.unusedVariables false

theorem ready_iff {md : Region.Mode} {ops : Array Oper} {listed : Array Bool} {i : Nat} : i ∈ Region.ready md ops listed ↔ i < ops.size ∧ listed.getD i true = false ∧ ∃ o, ops[i]? = some o ∧ ∀ e ∈ o.after.toList, Region.binds md e = true → listed.getD e.on false = true := by
  unfold Region.ready
  rw [List.mem_filter, List.mem_range]
  refine and_congr_right fun hi => ?_
  obtain ⟨o, ho⟩ : ∃ o, ops[i]? = some o := ⟨ops[i], by simp [hi]⟩
  rw [ho]
  simp only [Bool.and_eq_true, Bool.not_eq_true', Option.map_some, Option.getD_some, Option.some.injEq, exists_eq_left']
  refine and_congr_right fun _ => ?_
  rw [Array.all_eq_true_iff_forall_mem]
  constructor
  · intro h e he hb
    have := h e (Array.mem_toList_iff.1 he)
    simpa [hb] using this
  · intro h e he
    by_cases hb : Region.binds md e = true
    · simp [hb, h e (Array.mem_toList_iff.2 he) hb]
    · simp [hb]
theorem getD_true {l : Array Bool} {i n : Nat} (hs : l.size = n) (hi : i < n) : l.getD i true = l.getD i false := by
  simp [Array.getD, hs, hi]
theorem all_listed {ops : Array Oper} {listed : Array Bool} (hs : listed.size = ops.size) (hord : ∀ (i : Nat) o, ops[i]? = some o → ∀ e ∈ o.after.toList, e.on < i) (h : Region.ready .any ops listed = []) : ∀ i, i < ops.size → listed.getD i false = true := by
  intro i
  induction i using Nat.strongRecOn with
  | ind i ih =>
    intro hi
    cases hl : listed.getD i false with
    | true => rfl
    | false =>
      exfalso
      have hm : i ∈ Region.ready .any ops listed := ready_iff.2 ⟨hi, by rw [getD_true hs hi]; exact hl, ops[i], by simp [hi], fun e he _ => by
        have hlt := hord i _ (by simp [hi]) e he
        exact ih _ hlt (by omega)⟩
      rw [h] at hm
      cases hm
def cntF (l : Array Bool) : Nat := l.toList.count false
theorem cntF_set {l : Array Bool} {i : Nat} (hi : i < l.size) (hf : l.getD i true = false) : cntF (l.setIfInBounds i true) + 1 = cntF l := by
  have hf2 : l.toList[i]? = some false := by
    simp [Array.getD, hi] at hf
    simp [hi, hf]
  unfold cntF
  rw [Array.toList_setIfInBounds]
  generalize l.toList = m at hf2
  clear hf hi
  induction m generalizing i with
  | nil => simp at hf2
  | cons x r ih =>
    cases i with
    | zero => simp at hf2; subst hf2; simp
    | succ i =>
      simp at hf2
      have := ih hf2
      simp only [List.set_cons_succ, List.count_cons]
      omega
theorem wpAny_inv {P : Program} {ops : Array Oper} {Q : Exit → Act → World → Prop} {Inv : Array Bool → Act → World → Prop} (hsz : ∀ l a w, Inv l a w → l.size = ops.size)
    (hord : ∀ (i : Nat) o, ops[i]? = some o → ∀ e ∈ o.after.toList, e.on < i)
    (hstep : ∀ l a w i, Inv l a w → i ∈ Region.ready .any ops l → wpOp P ops Q i (fun a' w' => Inv (l.setIfInBounds i true) a' w') a w)
    (hfin : ∀ l a w, Inv l a w → (∀ i, i < ops.size → l.getD i false = true) → Q .normal a w) :
    ∀ (fuel : Nat) (l : Array Bool) (a : Act) (w : World), cntF l ≤ fuel → Inv l a w → wpAny P .any ops Q fuel l a w
  | 0, l, a, w, hc, hI => by
    have hr : Region.ready .any ops l = [] := by
      refine List.eq_nil_iff_forall_not_mem.2 fun i hi => ?_
      obtain ⟨h1, h2, _⟩ := ready_iff.1 hi
      have := cntF_set (by rw [hsz _ _ _ hI]; exact h1) h2
      omega
    exact ⟨hr, hfin l a w hI (all_listed (hsz _ _ _ hI) hord hr)⟩
  | fuel + 1, l, a, w, hc, hI => ⟨fun hr => hfin l a w hI (all_listed (hsz _ _ _ hI) hord hr), fun i hi => by
      obtain ⟨h1, h2, _⟩ := ready_iff.1 hi
      have := cntF_set (by rw [hsz _ _ _ hI]; exact h1) h2
      exact wpOp_mono (fun a' w' h => wpAny_inv hsz hord hstep hfin fuel _ a' w' (by omega) h) (hstep l a w i hI hi)⟩
theorem all_before {l : List Edge} {n : Nat} (h : (l.all fun e => decide (e.on < n)) = true) : ∀ e ∈ l, e.on < n := fun e he => of_decide_eq_true (List.all_eq_true.1 h e he)
theorem put_at {a : Act} {d t : Nat} {v : Value} (hd : d < a.tmps.size) : (a.put (some d) v).tmps.getD t undef = if t = d then v else a.tmps.getD t undef := by
  simp only [Act.put, Array.getD_eq_getD_getElem?, Array.getElem?_setIfInBounds]
  by_cases h : d = t
  · subst h; simp [hd]
  · rw [if_neg h, if_neg (fun e => h e.symm)]
/-- What stands in the slots that the region leaves alone. -/
def Rest (n : Nat) (slot : Nat → Nat) (a0 a : Act) : Prop := ∀ t, (∀ j, j < n → slot j ≠ t) → a.tmps.getD t undef = a0.tmps.getD t undef
theorem wp_region_each {P : Program} {id : Nat} {ops : Array Oper} {Q : Exit → Act → World → Prop} {a0 : Act} {w0 : World} (hm : P.follows .mixedOrders = true) (S : World → Prop) (Ext : World → World → Prop) (R : Nat → Value → World → Prop) (slot : Nat → Nat)
    (hd : ∀ (i : Nat) o, ops[i]? = some o → o.dst = some (slot i) ∧ o.guard = none ∧ slot i < a0.tmps.size)
    (inj : ∀ i j, i < ops.size → j < ops.size → slot i = slot j → i = j)
    (hord : ∀ (i : Nat) o, ops[i]? = some o → ∀ e ∈ o.after.toList, e.on < i)
    (mono : ∀ i v w w', R i v w → Ext w w' → R i v w')
    (hS0 : S w0.drew)
    (hop : ∀ (i : Nat) o, ops[i]? = some o → ∀ (a : Act) (w : World), S w → Rest ops.size slot a0 a → (∀ e ∈ o.after.toList, Region.binds .any e = true → R e.on (a.tmps.getD (slot e.on) undef) w) → ∀ K : Act → World → Prop, (∀ v w', S w' → Ext w w' → R i v w' → K (a.put (some (slot i)) v) w') → o.wp P a w K Q)
    (hfin : ∀ a w, S w → a.defers = a0.defers → a.tmps.size = a0.tmps.size → Rest ops.size slot a0 a → (∀ i, i < ops.size → R i (a.tmps.getD (slot i) undef) w) → Q .normal a w) :
    (Code.region id ops true).wp P Q a0 w0 := by
  refine wp_region_any hm ?_
  refine wpAny_inv (Inv := fun l a w => l.size = ops.size ∧ S w ∧ a.defers = a0.defers ∧ a.tmps.size = a0.tmps.size ∧ Rest ops.size slot a0 a ∧ ∀ i, i < ops.size → l.getD i false = true → R i (a.tmps.getD (slot i) undef) w) (fun l a w h => h.1) hord ?_ ?_ _ _ _ _ ?_ ?_
  · rintro l a w i ⟨hs, hS, hdf, htm, hr, hR⟩ hi
    obtain ⟨h1, h2, o, ho, h3⟩ := ready_iff.1 hi
    obtain ⟨d1, d2, d3⟩ := hd i o ho
    refine wpOp_step ho (fun K' hK => ?_)
    have hw : Region.wanted o (yielded ops a.tmps) = true := by simp [Region.wanted, d2]
    rw [if_pos hw]
    refine hop i o ho a w hS hr (fun e he hb => ?_) K' (fun v w' hS' hE hRv => hK _ _ ⟨?_, hS', ?_, ?_, ?_, ?_⟩)
    · have hlt := hord i o ho e he
      exact hR e.on (by omega) (h3 e he hb)
    · simpa using hs
    · exact hdf
    · simp only [Act.put, Array.size_setIfInBounds]; exact htm
    · intro t ht
      rw [put_at (by omega), if_neg (fun e => ht i h1 e.symm)]
      exact hr t ht
    · intro j hj hlj
      rw [put_at (by omega)]
      by_cases hji : j = i
      · subst hji; rw [if_pos rfl]; exact hRv
      · rw [if_neg (fun e => hji (inj j i hj h1 e))]
        refine mono _ _ _ _ (hR j hj ?_) hE
        simp only [Array.getD_eq_getD_getElem?, Array.getElem?_setIfInBounds] at hlj
        rw [if_neg (fun e => hji e.symm)] at hlj
        simpa [Array.getD_eq_getD_getElem?] using hlj
  · rintro l a w ⟨hs, hS, hdf, htm, hr, hR⟩ hall
    exact hfin a w hS hdf htm hr (fun i hi => hR i hi (hall i hi))
  · have : cntF (Array.replicate ops.size false) ≤ ops.size := by
      unfold cntF
      simp
    exact this
  · refine ⟨by simp, hS0, rfl, rfl, fun _ _ => rfl, fun i hi h => ?_⟩
    simp [Array.getD, hi] at h
end Lift
