/- Regions whose order is drawn and that hold guarded operations: each operation leaves a fact on its own slot, whatever the order (no program in sight). -/
import Derived.Test.YtaljgcdjkmpljaaDoorOrdEach
namespace Lift
open Go Go.RowKit
set_option linter.unusedSimpArgs false
set_option linter.unusedVariables false

theorem wp_region_eachG {P : Program} {id : Nat} {ops : Array Oper} {Q : Exit → Act → World → Prop} {a0 : Act} {w0 : World} (hm : P.follows .mixedOrders = true) (S : World → Prop) (Ext : World → World → Prop) (R : Nat → Value → World → Prop) (slot : Nat → Nat)
    (hd : ∀ (i : Nat) o, ops[i]? = some o → o.dst = some (slot i) ∧ slot i < a0.tmps.size)
    (inj : ∀ i j, i < ops.size → j < ops.size → slot i = slot j → i = j)
    (hord : ∀ (i : Nat) o, ops[i]? = some o → ∀ e ∈ o.after.toList, e.on < i)
    (mono : ∀ i v w w', R i v w → Ext w w' → R i v w')
    (hS0 : S w0.drew)
    (hop : ∀ (i : Nat) o, ops[i]? = some o → ∀ (a : Act) (w : World), S w → Rest ops.size slot a0 a → (∀ e ∈ o.after.toList, Region.binds .any e = true → R e.on (a.tmps.getD (slot e.on) undef) w) → Region.wanted o (yielded ops a.tmps) = true → ∀ K : Act → World → Prop, (∀ v w', S w' → Ext w w' → R i v w' → K (a.put (some (slot i)) v) w') → o.wp P a w K Q)
    (hskip : ∀ (i : Nat) o, ops[i]? = some o → ∀ (a : Act) (w : World), S w → Rest ops.size slot a0 a → (∀ e ∈ o.after.toList, Region.binds .any e = true → R e.on (a.tmps.getD (slot e.on) undef) w) → Region.wanted o (yielded ops a.tmps) = false → R i undef w)
    (hrefl : ∀ w, Ext w w)
    (hfin : ∀ a w, S w → a.defers = a0.defers → a.tmps.size = a0.tmps.size → Rest ops.size slot a0 a → (∀ i, i < ops.size → R i (a.tmps.getD (slot i) undef) w) → Q .normal a w) :
    (Code.region id ops true).wp P Q a0 w0 := by
  refine wp_region_any hm ?_
  refine wpAny_inv (Inv := fun l a w => l.size = ops.size ∧ S w ∧ a.defers = a0.defers ∧ a.tmps.size = a0.tmps.size ∧ Rest ops.size slot a0 a ∧ ∀ i, i < ops.size → l.getD i false = true → R i (a.tmps.getD (slot i) undef) w) (fun l a w h => h.1) hord ?_ ?_ _ _ _ _ ?_ ?_
  · rintro l a w i ⟨hs, hS, hdf, htm, hr, hR⟩ hi
    obtain ⟨h1, h2, o, ho, h3⟩ := ready_iff.1 hi
    obtain ⟨d1, d3⟩ := hd i o ho
    have hdep : ∀ e ∈ o.after.toList, Region.binds .any e = true → R e.on (a.tmps.getD (slot e.on) undef) w := fun e he hb => by
      have hlt := hord i o ho e he
      exact hR e.on (by omega) (h3 e he hb)
    refine wpOp_step ho (fun K' hK0 => ?_)
    have hK : ∀ v w', S w' → Ext w w' → R i v w' → K' (a.put (some (slot i)) v) w' := fun v w' hS' hE hRv => hK0 _ _ ⟨?_, hS', ?_, ?_, ?_, ?_⟩
    · cases hw : Region.wanted o (yielded ops a.tmps) with
      | true => exact hop i o ho a w hS hr hdep hw K' hK
      | false =>
        simp only [Bool.false_eq_true, if_false]
        rw [d1]
        exact hK _ _ hS (hrefl w) (hskip i o ho a w hS hr hdep hw)
    · simpa using hs
    · exact hdf
    · simp only [Act.put, Array.size_setIfInBounds]; exact htm
    · intro t ht
      rw [put_at (by omega), if_neg (fun e => ht i h1 e.symm)]
      exact hr t ht
    · intro j hj hlj
      rw [put_at (by omega)]
      by_cases hji : j = i
      · subst hji; rw [if_pos rfl]; exact hRv
      · rw [if_neg (fun e => hji (inj j i hj h1 e))]
        refine mono _ _ _ _ (hR j hj ?_) hE
        simp only [Array.getD_eq_getD_getElem?, Array.getElem?_setIfInBounds] at hlj
        rw [if_neg (fun e => hji e.symm)] at hlj
        simpa [Array.getD_eq_getD_getElem?] using hlj
  · rintro l a w ⟨hs, hS, hdf, htm, hr, hR⟩ hall
    exact hfin a w hS hdf htm hr (fun i hi => hR i hi (hall i hi))
  · have : cntF (Array.replicate ops.size false) ≤ ops.size := by
      unfold cntF
      simp
    exact this
  · refine ⟨by simp, hS0, rfl, rfl, fun _ _ => rfl, fun i hi h => ?_⟩
    simp [Array.getD, hi] at h
theorem wanted_free {ops : Array Oper} {o : Oper} {a : Act} (hg : o.guard = none) : Region.wanted o (yielded ops a.tmps) = true := by simp [Region.wanted, hg]
/-- A guard's Boolean stands in its slot. -/
theorem wanted_at {ops : Array Oper} {o : Oper} {a : Act} {j t : Nat} {b c : Bool} (hg : o.guard = some (j, b)) (hj : (ops[j]?).bind (·.dst) = some t) (hv : a.tmps.getD t undef = .bool c) : Region.wanted o (yielded ops a.tmps) = (c == b) := by
  have ht : a.tmps[t]? = some (.bool c) := by
    simp only [Array.getD_eq_getD_getElem?] at hv
    cases h : a.tmps[t]? with
    | none => rw [h] at hv; cases hv
    | some v => rw [h] at hv; simp at hv; rw [hv]
  simp [Region.wanted, hg, yielded, hj, ht]
end Lift
