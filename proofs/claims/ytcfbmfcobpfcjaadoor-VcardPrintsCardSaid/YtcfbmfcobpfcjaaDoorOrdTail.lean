/- Regions whose order is drawn, whose last operations come one behind another: each operation ahead of them leaves a fact on its own slot, whatever the order; then the last ones in the text's order (no program in sight). -/
import Derived.Test.YtcfbmfcobpfcjaaDoorOrdEach
import Derived.StillTail
namespace Lift
open Go Go.RowKit
set_option linter.unusedSimpArgs false
set_option linter.unusedVariables false

def listedTo (n N : Nat) : Array Bool := ((List.range n).map (fun i => decide (i < N))).toArray
theorem listed_is {listed : Array Bool} {n N : Nat} (hs : listed.size = n) (h1 : ∀ i, i < N → listed.getD i false = true) (h2 : ∀ t, N ≤ t → t < n → listed.getD t true = false) (hN : N ≤ n) : listed = listedTo n N := by
  apply Array.ext_getElem?
  intro i
  by_cases hi : i < n
  · by_cases hiN : i < N
    · have := h1 i hiN
      rw [Array.getD_eq_getD_getElem?] at this
      rw [Array.getElem?_eq_getElem (by omega)] at this ⊢
      simp at this
      simp [listedTo, hi, this, hiN]
    · have := h2 i (by omega) hi
      rw [Array.getD_eq_getD_getElem?] at this
      rw [Array.getElem?_eq_getElem (by omega)] at this ⊢
      simp at this
      simp [listedTo, hi, this, hiN]
  · rw [Array.getElem?_eq_none (by omega), Array.getElem?_eq_none (by simp [listedTo]; omega)]
theorem wp_region_eachT {P : Program} {id : Nat} {l : List Oper} {Q : Exit → Act → World → Prop} {a0 : Act} {w0 : World} (hm : P.follows .mixedOrders = true) (N : Nat) (hN : N < l.length)
    (hs : Region.sinkB .any l.toArray N = true) (hc : Region.chainB .any l.toArray N = true) (hseq : Region.seqB .any l.toArray (l.length - N) N (listedTo l.length N) = true) (hcnt : cntF (listedTo l.length N) = l.length - N)
    (S : World → Prop) (Ext : World → World → Prop) (R : Nat → Value → World → Prop) (slot : Nat → Nat)
    (hd : ∀ (i : Nat) o, i < N → l[i]? = some o → o.dst = some (slot i) ∧ o.guard = none ∧ slot i < a0.tmps.size)
    (inj : ∀ i j, i < N → j < N → slot i = slot j → i = j)
    (hord : ∀ (i : Nat) o, l[i]? = some o → ∀ e ∈ o.after.toList, e.on < i)
    (mono : ∀ i v w w', R i v w → Ext w w' → R i v w')
    (hS0 : S w0.drew)
    (hop : ∀ (i : Nat) o, i < N → l[i]? = some o → ∀ (a : Act) (w : World), S w → Rest N slot a0 a → (∀ e ∈ o.after.toList, Region.binds .any e = true → R e.on (a.tmps.getD (slot e.on) undef) w) → ∀ K : Act → World → Prop, (∀ v w', S w' → Ext w w' → R i v w' → K (a.put (some (slot i)) v) w') → o.wp P a w K Q)
    (hfin : ∀ a w, S w → a.defers = a0.defers → a.tmps.size = a0.tmps.size → Rest N slot a0 a → (∀ i, i < N → R i (a.tmps.getD (slot i) undef) w) → wpList P l.toArray Q (l.drop N) a w) :
    (Code.region id l.toArray true).wp P Q a0 w0 := by
  refine wp_region_any hm ?_
  have hord' : ∀ (i : Nat) o, l.toArray[i]? = some o → ∀ e ∈ o.after.toList, e.on < i := fun i o h => hord i o (by simpa using h)
  have hall : ∀ (fuel : Nat) (listed : Array Bool) (a : Act) (w : World), cntF listed = fuel → HeadInv .any l.toArray N listed → S w → a.defers = a0.defers → a.tmps.size = a0.tmps.size → Rest N slot a0 a → (∀ i, i < N → listed.getD i false = true → R i (a.tmps.getD (slot i) undef) w) → wpAny P .any l.toArray Q fuel listed a w := by
    intro fuel
    induction fuel with
    | zero =>
      intro listed a w hf inv hS hdf htm hr hR
      exfalso
      have ht := inv.tail N (Nat.le_refl _) (by simpa using hN)
      have := cntF_set (l := listed) (i := N) (by rw [inv.size]; simpa using hN) ht
      omega
    | succ fuel ih =>
      intro listed a w hf inv hS hdf htm hr hR
      by_cases hdone : ∀ i, i < N → listed.getD i false = true
      · have e := listed_is (n := l.length) (by rw [inv.size]; simp) hdone (fun t h1 h2 => inv.tail t h1 (by simpa using h2)) (Nat.le_of_lt hN)
        subst e
        have hl : (l.drop N).length = fuel + 1 := by rw [List.length_drop, ← hf, hcnt]
        rw [← hl]
        refine wpAny_of_seq (md := .any) (l.drop N) N _ a w (fun j => by simp [List.getElem?_drop]) (by rw [List.length_drop]; exact hseq) ?_
        exact hfin a w hS hdf htm hr (fun i hi => hR i hi (hdone i hi))
      · obtain ⟨i0, hi0, hun⟩ : ∃ i, i < N ∧ listed.getD i false = false := by
          apply Classical.byContradiction
          intro h
          apply hdone
          intro i hi
          cases hl : listed.getD i false with
          | true => rfl
          | false => exact absurd ⟨i, hi, hl⟩ h
        have hun' : listed.getD i0 true = false := by rw [getD_true inv.size (by simp; omega)]; exact hun
        refine ⟨fun h0 => ?_, fun i hi => ?_⟩
        · exfalso
          have := all_listed (by rw [inv.size]) hord' h0 i0 (by simp; omega)
          rw [hun] at this; cases this
        · have hiN : i < N := by
            apply Classical.byContradiction
            intro h
            exact tail_waits hs hc (by simpa using hN) inv _ i0 rfl hi0 hun' i (by omega) hi
          obtain ⟨h1, h2, o, ho, h3⟩ := ready_iff.1 hi
          have ho' : l[i]? = some o := by simpa using ho
          obtain ⟨d1, d2, d3⟩ := hd i o hiN ho'
          refine wpOp_step ho (fun K' hK => ?_)
          have hw : Region.wanted o (yielded l.toArray a.tmps) = true := by simp [Region.wanted, d2]
          rw [if_pos hw]
          refine hop i o hiN ho' a w hS hr (fun e he hb => ?_) K' (fun v w' hS' hE hRv => hK _ _ ?_)
          · have hlt := hord' i o ho e he
            exact hR e.on (by omega) (h3 e he hb)
          · refine ih (listed.setIfInBounds i true) _ w' (by have := cntF_set (by rw [inv.size]; exact h1) h2; omega) (inv.set hi hiN) hS' hdf (by simp only [Act.put, Array.size_setIfInBounds]; exact htm) ?_ ?_
            · intro t ht
              rw [put_at (by omega), if_neg (fun e => ht i hiN e.symm)]
              exact hr t ht
            · intro j hj hlj
              rw [put_at (by omega)]
              by_cases hji : j = i
              · subst hji; rw [if_pos rfl]; exact hRv
              · rw [if_neg (fun e => hji (inj j i hj hiN e))]
                refine mono _ _ _ _ (hR j hj ?_) hE
                simp only [Array.getD_eq_getD_getElem?, Array.getElem?_setIfInBounds] at hlj
                rw [if_neg (fun e => hji e.symm)] at hlj
                simpa [Array.getD_eq_getD_getElem?] using hlj
  have h0 : cntF (Array.replicate l.toArray.size false) = l.toArray.size := by unfold cntF; simp
  have := hall _ (Array.replicate l.toArray.size false) a0 w0.drew h0
    ⟨by simp, fun j oj _ hl => (by rw [getD_replicate_false] at hl; cases hl), fun t _ ht => getD_in (by simpa using ht) (getD_replicate_false _ _)⟩ hS0 rfl rfl (fun _ _ => rfl) (fun i _ h => by rw [getD_replicate_false] at h; cases h)
  exact this
end Lift
