/- A map from numbers to numbers that a call makes, told as a function (no program in sight). -/
import Derived.Test.YtdkndcmjcmeddaaRd
import Derived.Maps.OwnOps
import Derived.Maps.OwnSet
namespace Lift
open Go Go.Maps Go.RowKit
set_option linter.unusedVariables false

/-- The map at block b reads as f. -/
def IMap (P : Program) (K E : TypeId) (w : World) (b n : Nat) (f : Int → Option Int) : Prop :=
  ∃ D : DataW Unit, w.ownsMap P K (plainElem P E) b n D ∧ ∀ x, Wf x → has D (.int .i64 x) = (f x).isSome ∧ D.atKey (.int .i64 x) (.lit (.int .i64 0)) = .lit (.int .i64 ((f x).getD 0))
theorem key_lit (x : Int) : WideAt.IsKeyLit (.int .i64 x) := trivial
theorem lit_ne {x y : Int} (h : x ≠ y) : (Lit.int .i64 x) ≠ (Lit.int .i64 y) := by intro e; injection e with _ e; exact h e
theorem IMap.made (P : Program) (K E : TypeId) (w : World) : IMap P K E (w.alloc (.map #[] 0)) w.heap.size 0 (fun _ => none) :=
  ⟨.map [], World.ownsMap_made _ _ _ _, fun _ _ => ⟨rfl, rfl⟩⟩
theorem IMap.kept {P : Program} {K E : TypeId} {w w' : World} {b n : Nat} {f : Int → Option Int} {row : Option Nat} (h : IMap P K E w b n f) (hg : w.grownBy w' row) (hne : some b ≠ row) : IMap P K E w' b n f := by
  obtain ⟨D, h1, h2⟩ := h; exact ⟨D, h1.kept hg hne, h2⟩
theorem IMap.lt {P : Program} {K E : TypeId} {w : World} {b n : Nat} {f : Int → Option Int} (h : IMap P K E w b n f) : b < w.heap.size := by
  obtain ⟨D, h1, _⟩ := h; exact h1.lt
theorem IMap.old {P : Program} {K E : TypeId} {w w' : World} {b n : Nat} {f : Int → Option Int} {X : Nat → Prop} (h : IMap P K E w b n f) (hk : Kept X w w') (hx : ¬ X b) : IMap P K E w' b n f := by
  obtain ⟨D, ⟨es, c, h1, rest⟩, h2⟩ := h
  refine ⟨D, ⟨es, c, ?_, rest⟩, h2⟩
  rw [hk.block b (Array.getElem?_eq_some_iff.1 h1).1 hx]; exact h1
theorem IMap.below {P : Program} {K E : TypeId} {w w' : World} {b n : Nat} {f : Int → Option Int} (h : IMap P K E w b n f) (hb : Below w.heap.size w w') : IMap P K E w' b n f :=
  h.old (Kept.of_below hb (fun _ => False)) (fun h => h)
theorem IMap.alloc {P : Program} {K E : TypeId} {w : World} {b n : Nat} {f : Int → Option Int} (h : IMap P K E w b n f) (o : Obj) : IMap P K E (w.alloc o) b n f := h.below ((Below.refl _ w).alloc (Nat.le_refl _) o)
theorem IMap.eqf {P : Program} {K E : TypeId} {w : World} {b n : Nat} {f g : Int → Option Int} (h : IMap P K E w b n f) (he : ∀ x, Wf x → f x = g x) : IMap P K E w b n g := by
  obtain ⟨D, h1, h2⟩ := h; exact ⟨D, h1, fun x hx => by rw [← he x hx]; exact h2 x hx⟩

section
variable {P : Program} {ops : Array Oper} {rest : List Oper} {o : Oper} {a : Act} {Q : Exit → Act → World → Prop}
theorem wpList_imap_get (w : World) (hg : o.guard = none) (m x : Operand) (t : TypeId) (hop : o.op = Op.lookup t m x false)
    (K E : TypeId) (ht : P.underlying t = some (.map K E)) (hk : P.underlying K = some (.int .i64)) (he : P.underlying E = some (.int .i64)) (hz : (zeroValue E).run P w = .ok (.int .i64 0) w) (b n : Nat) (f : Int → Option Int)
    (hm : a.eval m = .map (some b)) (hown : IMap P K E w b n f) (key : Int) (hx : a.eval x = .int .i64 key) (hwf : Wf key)
    (hK : Wf ((f key).getD 0) → wpList P ops Q rest (a.put o.dst (.int .i64 ((f key).getD 0))) w) :
    wpList P ops Q (o :: rest) a w := by
  obtain ⟨D, h1, h2⟩ := hown
  refine wpList_lookup_own_int w hg m x t hop K E .i64 (int_keyed hk) ht he hz b n D hm h1 _ _ hx (keyOf_int_mk hk hwf) ?_
  intro c hc hwc
  obtain ⟨_, h4⟩ := h2 key hwf
  rw [h4] at hc
  simp only [DataW.lit.injEq, Lit.int.injEq, true_and] at hc
  rw [← hc] at hwc ⊢
  exact hK hwc
theorem wpList_imap_put (w : World) (hg : o.guard = none) (m x v : Operand) (t : TypeId) (hop : o.op = Op.mapUpdate t m x v)
    (K E : TypeId) (ht : P.underlying t = some (.map K E)) (hk : P.underlying K = some (.int .i64)) (he : P.underlying E = some (.int .i64)) (b n : Nat) (f : Int → Option Int)
    (hm : a.eval m = .map (some b)) (hown : IMap P K E w b n f) (hn : n < maxLen) (key val : Int) (hx : a.eval x = .int .i64 key) (hv : a.eval v = .int .i64 val) (hwf : Wf key) (hwv : Wf val)
    (hK : ∀ w', IMap P K E w' b (n + 1) (fun y => if y = key then some val else f y) → w.grownBy w' (some b) → wpList P ops Q rest (a.put o.dst undef) w') :
    wpList P ops Q (o :: rest) a w := by
  obtain ⟨D, h1, h2⟩ := hown
  refine wpList_mapUpdate_own w hg m x v t hop K E (int_keyed hk) ht _ b n D hm h1 hn _ _ _ hx hv (keyOf_int_mk hk hwf) _ [] (plainElem_int he hwv) ?_
  intro w' h3 h4
  refine hK w' ⟨_, h3, fun y hy => ?_⟩ h4
  dsimp only
  by_cases e : y = key
  · subst e
    rw [if_pos rfl, has_put_same h1.isMap (key_lit _), atKey_put_same h1.isMap (key_lit _)]
    exact ⟨rfl, rfl⟩
  · rw [if_neg e, has_put_other (lit_ne e), atKey_put_other (lit_ne e)]
    exact h2 y hy
theorem wpList_imap_del (w : World) (hg : o.guard = none) (m x : Operand) (t K : TypeId) (hop : o.op = Op.call { callee := Callee.builtin Builtin.delete, args := #[m, x], argTypes := #[t, K] })
    (E : TypeId) (ht : P.underlying t = some (.map K E)) (hk : P.underlying K = some (.int .i64)) (b n : Nat) (f : Int → Option Int)
    (hm : a.eval m = .map (some b)) (hown : IMap P K E w b n f) (key : Int) (hx : a.eval x = .int .i64 key) (hwf : Wf key)
    (hK : ∀ w', IMap P K E w' b n (fun y => if y = key then none else f y) → w.grownBy w' (some b) → wpList P ops Q rest (a.put o.dst (.tuple #[])) w') :
    wpList P ops Q (o :: rest) a w := by
  obtain ⟨D, h1, h2⟩ := hown
  refine wpList_delete_own w hg m x t K hop E (int_keyed hk) ht _ b n D hm h1 _ _ hx (keyOf_int_mk hk hwf) ?_
  intro w' h3 h4
  refine hK w' ⟨_, h3, fun y hy => ?_⟩ h4.grown
  dsimp only
  by_cases e : y = key
  · subst e
    rw [if_pos rfl, has_del_same, atKey_del_same]
    exact ⟨rfl, rfl⟩
  · rw [if_neg e, has_del_other (lit_ne e), atKey_del_other (lit_ne e)]
    exact h2 y hy
end
end Lift
