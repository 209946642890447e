/- A map from texts to texts that a call makes, told as a function (no program in sight). -/
import Derived.Test.YtdebfnlnpfienaaGreatDoorRd
import Derived.Maps.OwnOps
import Derived.Maps.OwnSet
import Derived.Maps.StringElems
import Derived.StringKeys
import Derived.Sort.KeysCollected
namespace Lift
open Go Go.Maps Go.RowKit
set_option linter.unusedVariables false

/-- The map at block b reads as f. -/
def SMap (P : Program) (K E : TypeId) (w : World) (b n : Nat) (f : ByteArray → Option ByteArray) : Prop :=
  ∃ D : DataW Unit, w.ownsMap P K (plainElem P E) b n D ∧ ∀ x : ByteArray, x.size ≤ maxLen → has D (.string x.data.toList) = (f x).isSome ∧ D.atKey (.string x.data.toList) (.lit (.string [])) = .lit (.string ((f x).getD ByteArray.empty).data.toList)
theorem skey_lit (x : List UInt8) : WideAt.IsKeyLit (.string x) := trivial
theorem slit_ne {x y : ByteArray} (h : x ≠ y) : (Lit.string x.data.toList) ≠ (Lit.string y.data.toList) := by
  intro e; injection e with e
  exact h (ByteArray.ext (Array.toList_inj.1 e))
theorem str_back (x : ByteArray) : (⟨x.data.toList.toArray⟩ : ByteArray) = x := rfl
theorem SMap.made (P : Program) (K E : TypeId) (w : World) : SMap P K E (w.alloc (.map #[] 0)) w.heap.size 0 (fun _ => none) :=
  ⟨.map [], World.ownsMap_made _ _ _ _, fun _ _ => ⟨rfl, rfl⟩⟩
section
variable {P : Program} {K E : TypeId} {w w' : World} {b n : Nat} {f : ByteArray → Option ByteArray}
theorem SMap.kept {row : Option Nat} (h : SMap P K E w b n f) (hg : w.grownBy w' row) (hne : some b ≠ row) : SMap P K E w' b n f := by
  obtain ⟨D, h1, h2⟩ := h; exact ⟨D, h1.kept hg hne, h2⟩
theorem SMap.lt (h : SMap P K E w b n f) : b < w.heap.size := by
  obtain ⟨D, h1, _⟩ := h; exact h1.lt
theorem SMap.old {X : Nat → Prop} (h : SMap P K E w b n f) (hk : Kept X w w') (hx : ¬ X b) : SMap P K E w' b n f := by
  obtain ⟨D, ⟨es, c, h1, rest⟩, h2⟩ := h
  refine ⟨D, ⟨es, c, ?_, rest⟩, h2⟩
  rw [hk.block b (Array.getElem?_eq_some_iff.1 h1).1 hx]; exact h1
theorem SMap.below (h : SMap P K E w b n f) (hb : Below w.heap.size w w') : SMap P K E w' b n f :=
  h.old (Kept.of_below hb (fun _ => False)) (fun h => h)
theorem SMap.eqf {g : ByteArray → Option ByteArray} (h : SMap P K E w b n f) (he : ∀ x, x.size ≤ maxLen → f x = g x) : SMap P K E w b n g := by
  obtain ⟨D, h1, h2⟩ := h; exact ⟨D, h1, fun x hx => by rw [← he x hx]; exact h2 x hx⟩
end
section
variable {P : Program} {ops : Array Oper} {rest : List Oper} {o : Oper} {a : Act} {Q : Exit → Act → World → Prop}
theorem wpList_smap_get (w : World) (hg : o.guard = none) (m x : Operand) (t : TypeId) (hop : o.op = Op.lookup t m x false)
    (K E : TypeId) (ht : P.underlying t = some (.map K E)) (hk : P.underlying K = some .string) (he : P.underlying E = some .string) (hz : (zeroValue E).run P w = .ok (.string ByteArray.empty) w) (b n : Nat) (f : ByteArray → Option ByteArray)
    (hm : a.eval m = .map (some b)) (hown : SMap P K E w b n f) (key : ByteArray) (hx : a.eval x = .string key) (hwf : key.size ≤ maxLen)
    (hK : ((f key).getD ByteArray.empty).size ≤ maxLen → wpList P ops Q rest (a.put o.dst (.string ((f key).getD ByteArray.empty))) w) :
    wpList P ops Q (o :: rest) a w := by
  obtain ⟨D, h1, h2⟩ := hown
  refine wpList_plain hg fun K' hK' => ?_
  obtain ⟨v, ps, hrun, hv⟩ := h1.lookup (string_keyed hk) ht hz (plainElem_string he (s := ByteArray.empty) (by simp [maxLen])) (WideMaps.keyOf_string_mk hk hwf)
  obtain ⟨c, rfl, hc, hwc⟩ := plainElem_string_inv he hv
  obtain ⟨_, h4⟩ := h2 key hwf
  have h5 : D.atKey (.string key.data.toList) (.lit (.string [])) = .lit (.string c.data.toList) := congrArg Prod.fst hc
  rw [h4] at h5
  simp only [DataW.lit.injEq, Lit.string.injEq] at h5
  have h6 : (f key).getD ByteArray.empty = c := ByteArray.ext (Array.toList_inj.1 h5)
  rw [h6] at hK
  unfold Oper.wp
  simp only [execOp, hop, hm, hx, Sem.run_bind, hrun, Result.andThen]
  exact hK' _ _ (hK hwc)
theorem wpList_smap_getOk (w : World) (hg : o.guard = none) (m x : Operand) (t : TypeId) (hop : o.op = Op.lookup t m x true)
    (K E : TypeId) (ht : P.underlying t = some (.map K E)) (hk : P.underlying K = some .string) (he : P.underlying E = some .string) (hz : (zeroValue E).run P w = .ok (.string ByteArray.empty) w) (b n : Nat) (f : ByteArray → Option ByteArray)
    (hm : a.eval m = .map (some b)) (hown : SMap P K E w b n f) (key : ByteArray) (hx : a.eval x = .string key) (hwf : key.size ≤ maxLen)
    (hK : ((f key).getD ByteArray.empty).size ≤ maxLen → wpList P ops Q rest (a.put o.dst (.tuple #[.string ((f key).getD ByteArray.empty), .bool (f key).isSome])) w) :
    wpList P ops Q (o :: rest) a w := by
  obtain ⟨D, h1, h2⟩ := hown
  obtain ⟨h3, h4⟩ := h2 key hwf
  refine wpList_lookup_own_ok w hg m x t hop K E (string_keyed hk) ht (plainElem P E) hz (.lit (.string [])) [] (plainElem_string he (s := ByteArray.empty) (by simp [maxLen])) b n D hm h1 _ _ hx (WideMaps.keyOf_string_mk hk hwf) ?_
  intro v ps hv
  obtain ⟨c, rfl, hc, hwc⟩ := plainElem_string_inv he hv
  have h5 : D.atKey (.string key.data.toList) (.lit (.string [])) = .lit (.string c.data.toList) := congrArg Prod.fst hc
  rw [h4] at h5
  simp only [DataW.lit.injEq, Lit.string.injEq] at h5
  have h6 : (f key).getD ByteArray.empty = c := ByteArray.ext (Array.toList_inj.1 h5)
  rw [h6] at hK
  rw [h3]
  exact hK hwc
theorem wpList_smap_put (w : World) (hg : o.guard = none) (m x v : Operand) (t : TypeId) (hop : o.op = Op.mapUpdate t m x v)
    (K E : TypeId) (ht : P.underlying t = some (.map K E)) (hk : P.underlying K = some .string) (he : P.underlying E = some .string) (b n : Nat) (f : ByteArray → Option ByteArray)
    (hm : a.eval m = .map (some b)) (hown : SMap P K E w b n f) (hn : n < maxLen) (key val : ByteArray) (hx : a.eval x = .string key) (hv : a.eval v = .string val) (hwf : key.size ≤ maxLen) (hwv : val.size ≤ maxLen)
    (hK : ∀ w', SMap P K E w' b (n + 1) (fun y => if y = key then some val else f y) → w.grownBy w' (some b) → wpList P ops Q rest (a.put o.dst undef) w') :
    wpList P ops Q (o :: rest) a w := by
  obtain ⟨D, h1, h2⟩ := hown
  refine wpList_mapUpdate_own w hg m x v t hop K E (string_keyed hk) ht _ b n D hm h1 hn _ _ _ hx hv (WideMaps.keyOf_string_mk hk hwf) _ [] (plainElem_string he hwv) ?_
  intro w' h3 h4
  refine hK w' ⟨_, h3, fun y hy => ?_⟩ h4
  dsimp only
  by_cases e : y = key
  · subst e
    rw [if_pos rfl, has_put_same h1.isMap (skey_lit _), atKey_put_same h1.isMap (skey_lit _)]
    exact ⟨rfl, rfl⟩
  · rw [if_neg e, has_put_other (slit_ne e), atKey_put_other (slit_ne e)]
    exact h2 y hy
theorem wpList_smap_del (w : World) (hg : o.guard = none) (m x : Operand) (t K : TypeId) (hop : o.op = Op.call { callee := Callee.builtin Builtin.delete, args := #[m, x], argTypes := #[t, K] })
    (E : TypeId) (ht : P.underlying t = some (.map K E)) (hk : P.underlying K = some .string) (b n : Nat) (f : ByteArray → Option ByteArray)
    (hm : a.eval m = .map (some b)) (hown : SMap P K E w b n f) (key : ByteArray) (hx : a.eval x = .string key) (hwf : key.size ≤ maxLen)
    (hK : ∀ w', SMap P K E w' b n (fun y => if y = key then none else f y) → w.grownBy w' (some b) → wpList P ops Q rest (a.put o.dst (.tuple #[])) w') :
    wpList P ops Q (o :: rest) a w := by
  obtain ⟨D, h1, h2⟩ := hown
  refine wpList_delete_own w hg m x t K hop E (string_keyed hk) ht _ b n D hm h1 _ _ hx (WideMaps.keyOf_string_mk hk hwf) ?_
  intro w' h3 h4
  refine hK w' ⟨_, h3, fun y hy => ?_⟩ h4.grown
  dsimp only
  by_cases e : y = key
  · subst e
    rw [if_pos rfl, has_del_same, atKey_del_same]
    exact ⟨rfl, rfl⟩
  · rw [if_neg e, has_del_other (slit_ne e), atKey_del_other (slit_ne e)]
    exact h2 y hy
end
end Lift

/- Keys and values: pairs that rise, writes done on them (no program in sight); a map of texts that has them. -/
namespace Lift
open Go Go.Maps Go.RowKit
set_option linter.unusedVariables false

abbrev KV := ByteArray × ByteArray
abbrev KW := ByteArray × ByteArray × Bool
def bl (x : ByteArray) : List UInt8 := x.data.toList
theorem bl_inj {x y : ByteArray} (h : bl x = bl y) : x = y := ByteArray.ext (Array.toList_inj.1 h)
def wput (w : KW) : List KV := if w.2.2 then [] else [(w.1, w.2.1)]
def kdo : List KV → KW → List KV
  | [], w => wput w
  | p :: r, w => if bl p.1 < bl w.1 then p :: kdo r w else wput w ++ (if p.1 = w.1 then r else p :: r)
def kget : List KV → ByteArray → Option ByteArray
  | [], _ => none
  | p :: r, k => if p.1 = k then some p.2 else kget r k
def Rising (L : List KV) : Prop := L.Pairwise (fun p q => bl p.1 < bl q.1)
theorem bl_lt_trans {x y z : ByteArray} (h1 : bl x < bl y) (h2 : bl y < bl z) : bl x < bl z := List.lt_trans h1 h2
theorem bl_irr (x : ByteArray) : ¬ bl x < bl x := List.lt_irrefl _
theorem bl_total {x y : ByteArray} (h : ¬ bl x < bl y) (hn : x ≠ y) : bl y < bl x := by
  have h1 : bl y ≤ bl x := List.not_lt.1 h
  by_cases h2 : bl y < bl x
  · exact h2
  · exact absurd (bl_inj (List.le_antisymm (List.not_lt.1 h2) h1)) hn
theorem kdo_mem {w : KW} {q : KV} : ∀ {L : List KV}, q ∈ kdo L w → q ∈ L ∨ (w.2.2 = false ∧ q = (w.1, w.2.1))
  | [], h => by
    simp only [kdo, wput] at h
    split at h
    · cases h
    · rename_i h1; exact .inr ⟨by simpa using h1, by simpa using h⟩
  | p :: r, h => by
    simp only [kdo] at h
    split at h
    · rcases List.mem_cons.1 h with rfl | h
      · exact .inl (List.mem_cons_self ..)
      · rcases kdo_mem h with h | h
        · exact .inl (List.mem_cons_of_mem _ h)
        · exact .inr h
    · rcases List.mem_append.1 h with h | h
      · simp only [wput] at h
        split at h
        · cases h
        · rename_i h1; exact .inr ⟨by simpa using h1, by simpa using h⟩
      · split at h
        · exact .inl (List.mem_cons_of_mem _ h)
        · exact .inl h
theorem kdo_rising {w : KW} : ∀ {L : List KV}, Rising L → Rising (kdo L w)
  | [], _ => by simp only [kdo, wput, Rising]; split <;> simp
  | p :: r, h => by
    unfold Rising at *
    obtain ⟨h1, h2⟩ := List.pairwise_cons.1 h
    simp only [kdo]
    split
    · rename_i hlt
      refine List.pairwise_cons.2 ⟨fun q hq => ?_, kdo_rising h2⟩
      rcases kdo_mem hq with hq | ⟨_, rfl⟩
      · exact h1 q hq
      · exact hlt
    · rename_i hlt
      refine List.pairwise_append.2 ⟨by simp only [wput]; split <;> simp, ?_, fun a ha b hb => ?_⟩
      · split
        · exact h2
        · exact h
      · simp only [wput] at ha
        split at ha
        · cases ha
        · obtain rfl : a = (w.1, w.2.1) := by simpa using ha
          split at hb
          · rename_i e; rw [← e]; exact h1 b hb
          · rename_i hne
            rcases List.mem_cons.1 hb with rfl | hb
            · exact bl_total hlt hne
            · exact bl_lt_trans (bl_total hlt hne) (h1 b hb)
theorem kget_none {k : ByteArray} : ∀ {L : List KV}, (∀ q ∈ L, q.1 ≠ k) → kget L k = none
  | [], _ => rfl
  | p :: r, h => by
    simp only [kget]
    rw [if_neg (h p (List.mem_cons_self ..))]
    exact kget_none (fun q hq => h q (List.mem_cons_of_mem _ hq))
theorem kget_mem {k v : ByteArray} : ∀ {L : List KV}, kget L k = some v → (k, v) ∈ L
  | [], h => by cases h
  | p :: r, h => by
    simp only [kget] at h
    split at h
    · rename_i e; cases h; rw [← e]; exact List.mem_cons_self ..
    · exact List.mem_cons_of_mem _ (kget_mem h)
theorem kget_some {q : KV} : ∀ {L : List KV}, Rising L → q ∈ L → kget L q.1 = some q.2
  | [], _, h => by cases h
  | p :: r, hr, h => by
    obtain ⟨h1, h2⟩ := List.pairwise_cons.1 hr
    simp only [kget]
    rcases List.mem_cons.1 h with rfl | h
    · rw [if_pos rfl]
    · rw [if_neg (fun e => by have := h1 q h; rw [e] at this; exact bl_irr _ this)]
      exact kget_some h2 h
theorem kget_do {w : KW} {x : ByteArray} : ∀ {L : List KV}, Rising L → kget (kdo L w) x = if x = w.1 then (if w.2.2 then none else some w.2.1) else kget L x
  | [], _ => by
    simp only [kdo, wput]
    by_cases e : x = w.1
    · rw [if_pos e]; split
      · rfl
      · simp [kget, e]
    · rw [if_neg e]; split
      · rfl
      · simp [kget, Ne.symm e]
  | p :: r, hr => by
    obtain ⟨h1, h2⟩ := List.pairwise_cons.1 hr
    simp only [kdo]
    split
    · rename_i hlt
      simp only [kget]
      by_cases e : p.1 = x
      · rw [if_pos e, if_neg (fun e2 => by rw [e, e2] at hlt; exact bl_irr _ hlt), if_pos e]
      · rw [if_neg e, kget_do h2, if_neg e]
    · rename_i hlt
      by_cases e : x = w.1
      · rw [if_pos e]
        by_cases g : w.2.2 = true
        · rw [if_pos g]; simp only [wput, if_pos g, List.nil_append]
          refine kget_none (fun q hq e2 => ?_)
          split at hq
          · rename_i e3; have := h1 q hq; rw [e2, e, e3] at this; exact bl_irr _ this
          · rename_i hne
            have hb := bl_total hlt hne
            rcases List.mem_cons.1 hq with rfl | hq
            · rw [e2, e] at hb; exact bl_irr _ hb
            · have := bl_lt_trans hb (h1 q hq); rw [e2, e] at this; exact bl_irr _ this
        · rw [if_neg g]; simp only [wput, if_neg g, List.singleton_append, kget]
          rw [if_pos e.symm]
      · rw [if_neg e]
        have h3 : ∀ M : List KV, kget (wput w ++ M) x = kget M x := fun M => by
          simp only [wput]; split
          · rfl
          · simp [kget, Ne.symm e]
        rw [h3]
        split
        · rename_i e2; simp only [kget]; rw [if_neg (by rw [e2]; exact Ne.symm e)]
        · rfl
theorem kdo_len (w : KW) : ∀ (L : List KV), (kdo L w).length ≤ L.length + (if w.2.2 then 0 else 1)
  | [] => by simp only [kdo, wput]; split <;> simp
  | p :: r => by
    have := kdo_len w r
    simp only [kdo]
    split
    · simp; omega
    · simp only [List.length_append, List.length_cons, wput]
      split <;> split <;> simp <;> omega
/-- Both know the same keys. -/
theorem rising_ext : ∀ {L M : List KV}, Rising L → Rising M → (∀ q, q ∈ L ↔ q ∈ M) → L = M := by
  intro L M h1 h2 h
  refine List.Perm.eq_of_pairwise (le := fun p q : KV => bl p.1 < bl q.1) (fun a b _ _ h3 h4 => absurd (bl_lt_trans h3 h4) (bl_irr _)) h1 h2 ?_
  have nd : ∀ {L : List KV}, Rising L → L.Nodup := fun h => h.imp (fun {a b} h e => by rw [e] at h; exact bl_irr _ h)
  exact (List.perm_ext_iff_of_nodup (nd h1) (nd h2)).2 h

/-! ### A map that has the pairs -/
section
variable {P : Program} {K E : TypeId} {w w' : World} {b n : Nat} {L : List KV}
def KMap (P : Program) (K E : TypeId) (w : World) (b n : Nat) (L : List KV) : Prop := SMap P K E w b n (kget L)
theorem kmap_do_put {k v : ByteArray} (hr : Rising L) (h : SMap P K E w b n (fun y => if y = k then some v else kget L y)) : KMap P K E w b n (kdo L (k, v, false)) :=
  h.eqf (fun x _ => by rw [kget_do hr]; simp)
theorem kmap_do_del {k v : ByteArray} (hr : Rising L) (h : SMap P K E w b n (fun y => if y = k then none else kget L y)) : KMap P K E w b n (kdo L (k, v, true)) :=
  h.eqf (fun x _ => by rw [kget_do hr]; simp)
theorem kget_isSome {L : List KV} (x : ByteArray) : (kget L x).isSome = true ↔ x ∈ L.map (·.1) := by
  induction L with
  | nil => simp [kget]
  | cons p r ih =>
    simp only [kget, List.map_cons, List.mem_cons]
    split
    · rename_i e; simp [e]
    · rename_i e; rw [ih]; constructor
      · exact .inr
      · rintro (h | h)
        · exact absurd h.symm e
        · exact h
theorem kmap_keys (hk : P.underlying K = some .string) (h : KMap P K E w b n L) (hr : Rising L) (hs : ∀ p ∈ L, p.1.size ≤ maxLen) :
    ∃ D : DataW Unit, w.ownsMap P K (plainElem P E) b n D ∧ (L.map (fun p => bl p.1)).Perm (strKeys D) := by
  obtain ⟨D, h1, h2⟩ := h
  refine ⟨D, h1, ?_⟩
  obtain ⟨es, hD, hpw, _⟩ := h1.entries (string_keyed hk)
  obtain ⟨es', hD', hko⟩ := h1.keysOf
  obtain rfl : es = es' := by rw [hD] at hD'; simpa using hD'
  subst hD
  refine perm_strKeys hpw (fun p hp => by obtain ⟨v, hv⟩ := hko p hp; obtain ⟨x, _, hx, _⟩ := Maps.keyOf_str hk hv; exact ⟨x, hx⟩) ?_ (fun x => ?_)
  · refine List.pairwise_map.2 (hr.imp (fun {a b} h e => by rw [e] at h; exact List.lt_irrefl _ h))
  · by_cases hx : x.length ≤ maxLen
    · have h3 := (h2 ⟨x.toArray⟩ (by show x.toArray.size ≤ maxLen; rw [List.size_toArray]; exact hx)).1
      simp only at h3
      rw [h3, kget_isSome, List.mem_map, List.mem_map]
      constructor
      · rintro ⟨p, hp, rfl⟩; exact ⟨p, hp, rfl⟩
      · rintro ⟨p, hp, e⟩; exact ⟨p, hp, by rw [e]; simp [bl]⟩
    · constructor
      · intro hm
        obtain ⟨p, hp, rfl⟩ := List.mem_map.1 hm
        exact absurd (show (bl p.1).length ≤ maxLen from (Array.length_toList (xs := p.1.data)).symm ▸ hs p hp) hx
      · intro hh
        rw [has_eq, List.any_eq_true] at hh
        obtain ⟨p, hp, e⟩ := hh
        obtain ⟨v, hv⟩ := hko p hp
        obtain ⟨y, _, hy, hl⟩ := Maps.keyOf_str hk hv
        rw [hy] at e
        have : y = x := by simpa [Lit.sameKey] using e
        exact absurd (this ▸ hl) hx
theorem kmap_sorted {D : DataW Unit} {ss : List (List UInt8)} (hr : Rising L) (hp : (L.map (fun p => bl p.1)).Perm (strKeys D)) (hs : ss.Perm (strKeys D)) : ss.mergeSort leB = L.map (fun p => bl p.1) := by
  rw [mergeSort_of_perm (hs.trans hp.symm)]
  refine List.mergeSort_of_pairwise (List.pairwise_map.2 (hr.imp (fun {a b} h => ?_)))
  simp only [leB, decide_eq_true_eq]
  exact List.not_lt.1 (fun h2 => List.lt_irrefl _ (List.lt_trans h h2))
theorem encStr_bl (x : ByteArray) : Go.Proofs.encStr (bl x) = .string x := by
  show Value.string ⟨(x.data.toList).toArray⟩ = _
  rw [Array.toArray_toList]
end
end Lift

/- Writes as records: numbers in bytes of seven bits, texts, what may be (no program in sight). -/
namespace Lift
open Go
set_option linter.unusedVariables false

/-- The bytes ahead of a number's last one. -/
def mbU : Nat → Nat → List UInt8
  | 0, _ => []
  | f + 1, n => if n = 0 then [] else mbU f (n / 128) ++ [UInt8.ofNat (n % 128 + 128)]
def mbL (n : Nat) : List UInt8 := mbU 5 (n / 128) ++ [UInt8.ofNat (n % 128)]
def mbB (n : Nat) : ByteArray := ⟨(mbL n).toArray⟩
theorem mbU_len : ∀ (f n : Nat), (mbU f n).length ≤ f
  | 0, _ => by simp [mbU]
  | f + 1, n => by
    simp only [mbU]; split
    · simp
    · have := mbU_len f (n / 128); simp; omega
theorem mbL_len (n : Nat) : 1 ≤ (mbL n).length ∧ (mbL n).length ≤ 6 := by
  have := mbU_len 5 (n / 128); simp [mbL]; omega
theorem mbB_size (n : Nat) : (mbB n).size = (mbL n).length := by simp [mbB, ByteArray.size]
theorem mbU_step (f n : Nat) (h : n ≠ 0) : mbU (f + 1) n = mbU f (n / 128) ++ [UInt8.ofNat (n % 128 + 128)] := by simp [mbU, h]
def txL (s : ByteArray) : List UInt8 := mbL s.size ++ bl s
def wrL (w : KW) : List UInt8 := if w.2.2 then mbL 1 ++ txL w.1 else mbL 0 ++ txL w.1 ++ txL w.2.1
def recL (l : List KW) : List UInt8 := mbL l.length ++ (l.map wrL).flatten
def recB (l : List KW) : ByteArray := ⟨(recL l).toArray⟩
theorem recB_size (l : List KW) : (recB l).size = (recL l).length := by simp [recB, ByteArray.size]
def asPut (p : KV) : KW := (p.1, p.2, false)
def allB (L : List KV) : ByteArray := recB (L.map asPut)
theorem txL_len (s : ByteArray) : 1 + s.size ≤ (txL s).length ∧ (txL s).length ≤ 6 + s.size := by
  have h1 := mbL_len s.size; have h2 : (bl s).length = s.size := Array.length_toList
  rw [txL, List.length_append, h2]; omega
def wrCost (w : KW) : Nat := if w.2.2 then 0 else 1
theorem wrL_len (w : KW) (h : 1 ≤ w.1.size) : 4 * wrCost w ≤ (wrL w).length := by
  have h1 := txL_len w.1; have h2 := txL_len w.2.1; have h3 := mbL_len 0
  unfold wrL wrCost; split
  · omega
  · simp only [List.length_append]; omega
theorem wrL_max (w : KW) : (wrL w).length ≤ 18 + w.1.size + w.2.1.size := by
  have h1 := txL_len w.1; have h2 := txL_len w.2.1; have h3 := mbL_len 0; have h4 := mbL_len 1
  unfold wrL; split
  · simp only [List.length_append]; omega
  · simp only [List.length_append]; omega
theorem recL_len {l : List KW} (h : ∀ w ∈ l, 1 ≤ w.1.size) : 1 + 4 * (l.map wrCost).sum ≤ (recL l).length := by
  have h1 := mbL_len l.length
  have : 4 * (l.map wrCost).sum ≤ ((l.map wrL).flatten).length := by
    clear h1
    induction l with
    | nil => simp
    | cons w r ih =>
      have h2 := wrL_len w (h w (List.mem_cons_self ..))
      have h3 := ih (fun x hx => h x (List.mem_cons_of_mem _ hx))
      simp only [List.map_cons, List.sum_cons, List.flatten_cons, List.length_append]; omega
  unfold recL; rw [List.length_append]; omega
theorem recL_snoc_len (l : List KW) : (recL l).length ≤ 6 + (l.map (fun w => 18 + w.1.size + w.2.1.size)).sum := by
  have h1 := mbL_len l.length
  have : ((l.map wrL).flatten).length ≤ (l.map (fun w => 18 + w.1.size + w.2.1.size)).sum := by
    clear h1
    induction l with
    | nil => simp
    | cons w r ih =>
      have h2 := wrL_max w
      simp only [List.map_cons, List.sum_cons, List.flatten_cons, List.length_append]; omega
  unfold recL; rw [List.length_append]; omega
/-- Is a write one that may be? -/
def rightW (w : KW) : Bool := !decide (w.1.size = 0) && decide ((w.1.size : Int) ≤ 40) && decide ((w.2.1.size : Int) ≤ 9000) && !(w.2.2 && !decide (w.2.1.size = 0))
def badC (l : List KW) : Bool := decide (l.length = 0) || decide (400 < l.length) || l.any (fun w => !rightW w)
end Lift

/- Numbers in bytes of seven bits: what they say (no program in sight). -/
namespace Lift
open Go
set_option linter.unusedVariables false

/-- What bytes of seven bits say. -/
def vOf (l : List UInt8) : Nat := l.foldl (fun a c => a * 128 + c.toNat % 128) 0
theorem vOf_snoc (l : List UInt8) (c : UInt8) : vOf (l ++ [c]) = vOf l * 128 + c.toNat % 128 := by simp [vOf]
theorem vfold_le : ∀ (r : List UInt8) (a : Nat), a ≤ r.foldl (fun a c => a * 128 + c.toNat % 128) a
  | [], a => Nat.le_refl _
  | c :: r, a => by
    have := vfold_le r (a * 128 + c.toNat % 128)
    simp only [List.foldl_cons]; omega
theorem vOf_take (l : List UInt8) (k : Nat) : vOf (l.take k) ≤ vOf l := by
  have := vfold_le (l.drop k) (vOf (l.take k))
  unfold vOf at *
  rw [← List.foldl_append, List.take_append_drop] at this
  exact this
theorem u8_hi (n : Nat) : (UInt8.ofNat (n % 128 + 128)).toNat = n % 128 + 128 := by rw [UInt8.toNat_ofNat']; omega
theorem u8_lo (n : Nat) : (UInt8.ofNat (n % 128)).toNat = n % 128 := by rw [UInt8.toNat_ofNat']; omega
theorem mbU_val : ∀ (f n : Nat), n < 128 ^ f → vOf (mbU f n) = n
  | 0, n, h => by simp at h; subst h; rfl
  | f + 1, n, h => by
    simp only [mbU]
    split
    · rename_i h0; subst h0; rfl
    · rw [vOf_snoc, mbU_val f (n / 128) (by rw [Nat.pow_succ] at h; exact Nat.div_lt_of_lt_mul (by omega)), u8_hi]
      omega
theorem mbU_hi : ∀ (f n : Nat), ∀ c ∈ mbU f n, 128 ≤ c.toNat
  | 0, n, c, h => by simp [mbU] at h
  | f + 1, n, c, h => by
    simp only [mbU] at h
    split at h
    · cases h
    · rcases List.mem_append.1 h with h | h
      · exact mbU_hi f _ c h
      · rw [List.mem_singleton] at h; subst h; rw [u8_hi]; omega
theorem mbU_top : ∀ (f n : Nat), n < 128 ^ f → ∀ c, (mbU f n)[0]? = some c → c.toNat ≠ 128
  | 0, n, h, c, hc => by simp [mbU] at hc
  | f + 1, n, h, c, hc => by
    simp only [mbU] at hc
    split at hc
    · cases hc
    · rename_i h0
      have hlt : n / 128 < 128 ^ f := by rw [Nat.pow_succ] at h; exact Nat.div_lt_of_lt_mul (by omega)
      by_cases h1 : n / 128 = 0
      · have e : mbU f (n / 128) = [] := by rw [h1]; cases f <;> simp [mbU]
        rw [e, List.nil_append, List.getElem?_cons_zero, Option.some.injEq] at hc
        subst hc; rw [u8_hi]; omega
      · have hne : mbU f (n / 128) ≠ [] := by
          cases f with
          | zero => simp at hlt; omega
          | succ f => simp [mbU, h1]
        obtain ⟨d, r, e⟩ := List.exists_cons_of_ne_nil hne
        rw [e] at hc
        simp at hc
        subst hc
        exact mbU_top f (n / 128) hlt d (by rw [e]; rfl)
section
variable {n : Nat}
theorem mbL_val (h : n < 4294967296) : vOf (mbL n) = n := by
  unfold mbL
  rw [vOf_snoc, mbU_val 5 (n / 128) (by omega), u8_lo]; omega
theorem mbL_hi (k : Nat) (c : UInt8) (hk : k + 1 < (mbL n).length) (hc : (mbL n)[k]? = some c) : 128 ≤ c.toNat := by
  unfold mbL at hk hc
  rw [List.length_append, List.length_singleton] at hk
  rw [List.getElem?_append_left (by omega)] at hc
  exact mbU_hi 5 _ c (List.mem_of_getElem? hc)
theorem mbL_lo (c : UInt8) (k : Nat) (hk : k + 1 = (mbL n).length) (hc : (mbL n)[k]? = some c) : c.toNat < 128 := by
  unfold mbL at hk hc
  rw [List.length_append, List.length_singleton] at hk
  rw [List.getElem?_append_right (by omega), show k - (mbU 5 (n / 128)).length = 0 by omega] at hc
  simp at hc; subst hc; rw [u8_lo]; omega
theorem mbL_top (h : n < 4294967296) (c : UInt8) (hc : (mbL n)[0]? = some c) : c.toNat ≠ 128 := by
  unfold mbL at hc
  cases e : mbU 5 (n / 128) with
  | nil => rw [e] at hc; simp at hc; subst hc; rw [u8_lo]; omega
  | cons d r =>
    rw [e] at hc
    simp at hc
    subst hc
    exact mbU_top 5 (n / 128) (by omega) d (by rw [e]; rfl)
end
end Lift
