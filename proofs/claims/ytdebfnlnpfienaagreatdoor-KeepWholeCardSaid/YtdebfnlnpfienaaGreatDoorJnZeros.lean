/- Zeros behind bytes: append of a make. -/
import Derived.Test.YtdebfnlnpfienaaGreatDoorJnConcat
import Derived.Laws.IdiomCopy
namespace Go.Proofs.YtdebfnlnpfienaaGreatDoor
open Go.RowKit Lift
set_option linter.unusedSimpArgs false
set_option linter.unusedVariables false

theorem zero_rep (k : Nat) : Builtin.zeroCells (Value.int IntKind.u8 0).cells k = (List.replicate k (Value.int .u8 0)).toArray := by
  apply Array.ext
  · simp [Builtin.zeroCells, Value.cells]
  · intro i h1 h2
    simp [Builtin.zeroCells, Value.cells, Nat.mod_one] at h1 ⊢
/-- Bytes at a place, one by one. -/
theorem bytes_at {w : World} {b off : Nat} {l : List UInt8} (hlt : b < w.heap.size) (h : ∀ k c, l[k]? = some c → w.cell? ⟨b, off + k, none⟩ = some (.int .u8 (c.toNat : Int))) : SlAt rByte (· < w.heap.size) w (some ⟨b, off, none⟩) l :=
  .inr ⟨b, off, rfl, hlt, hlt, fun k c hk => ⟨[.int .u8 (c.toNat : Int)], rfl, fun i v hi => by
    match i, hi with
    | 0, hi => cases hi; have := h k c hk; simpa [rByte] using this
    | i + 1, hi => simp at hi⟩⟩
theorem byte_get {S : Nat → Prop} {w : World} {ao : Option Addr} {l : List UInt8} (h : SlAt rByte S w ao l) {k : Nat} {c : UInt8} (hk : l[k]? = some c) : ∃ b off, ao = some ⟨b, off, none⟩ ∧ S b ∧ b < w.heap.size ∧ w.cell? ⟨b, off + k, none⟩ = some (.int .u8 (c.toNat : Int)) := by
  obtain ⟨b, off, cs, rfl, hs, hlt, rfl, hc⟩ := h.get hk
  refine ⟨b, off, rfl, hs, hlt, ?_⟩
  have := hc 0 _ rfl
  simpa [rByte] using this
theorem append_zeros (w : World) (base : Nat) (ao : Option Addr) (n cap : Nat) (l : List UInt8) (hO : Own rByte (fun _ => True) w base 5 (.slice ao n cap) l) (hbase : base ≤ w.heap.size) (k : Nat) (h0 : 0 < k) (hk : l.length + k ≤ 100000) (h1 : 0 < l.length) :
    ∃ a c w', (Builtin.append_ #[83, 3] 83 #[.slice ao n cap, .int .i64 k]).run Tryz.prog w = .ok (.slice a (l.length + k) c) w' ∧ SlAt rByte (· < w'.heap.size) w' a (l ++ List.replicate k 0) ∧ Below base w w' := by
  obtain ⟨i0, hi, hz0, hz1, hz2⟩ := info_parts u8_row
  obtain ⟨hcap1, hcap2, hn, _⟩ := hO.cap
  subst hn
  obtain ⟨g, rfl⟩ : ∃ g, ao = some ⟨g, 0, none⟩ := by
    obtain ⟨xs, h, _⟩ := hO
    rcases h.2 with ⟨e, e2⟩ | ⟨g, _, _, e, _⟩
    · omega
    · injection e with e; exact ⟨g, e⟩
  have hcells : ∀ j c, l[j]? = some c → w.cell? ⟨g, j, none⟩ = some (.int .u8 (c.toNat : Int)) := fun j c hj => by
    obtain ⟨b, off, e, _, _, h⟩ := byte_get hO.here hj
    cases e
    simpa using h
  have hlt := hO.lt g rfl
  have hbd : (l.length : Int) + (k : Int) ≤ 9223372036854775807 := by omega
  by_cases hroom : l.length + k ≤ cap
  · have hrow : ∀ j, j < cap → (w.cell? ⟨g, j, none⟩).isSome = true ∧ w.frozen? ⟨g, j, none⟩ = false := by
      intro j hj
      obtain ⟨xs, h, _⟩ := hO
      rcases h.2 with ⟨e, e2⟩ | ⟨g', cap', cur, e, _, hg, _, _, hsz, _⟩
      · omega
      · injection e with e e2 e3
        cases e; subst e3
        refine ⟨?_, frozen_of_row w _ _ _ _ hg⟩
        have : j < cur.size := by rw [hsz]; simp [rByte]; exact hj
        rw [cell_of_row w _ _ _ _ _ hg]; simp [this]
    have hst := run_storeCells_cells (P := Tryz.prog) g (0 + l.length) (List.replicate k (.int .u8 0)) 0 w (fun j hj => by simp at hj ⊢; exact (hrow _ (by omega)).1) (fun j hj => by simp at hj ⊢; exact (hrow _ (by omega)).2) (fun u hu => by rw [List.eq_of_mem_replicate hu]; rfl)
    simp only [Nat.add_zero, Nat.zero_add] at hst
    refine ⟨some ⟨g, 0, none⟩, cap, w.setCells g l.length (List.replicate k (.int .u8 0)), ?_, ?_, ?_⟩
    · have hk0 : k ≠ 0 := by omega
      have hw : IntKind.i64.wrap (k : Int) = k := by rw [IntKind.wrap_i64]; omega
      have h48i : ¬ (281474976710656 < (k : Int)) := by omega
      have hneg : ¬ ((k : Int) < 0) := by omega
      simp [Builtin.append_, run_underlying Tryz.underlying83, run_underlying Tryz.underlying3, sizeOf, typeInfo, zeroValue, hi, hz0, hz1, hz2, asInt, asIntOf, hw, hroom, hneg, hk0, h48i, Addr.add_lit, zero_rep, hst]
    · refine bytes_at (Nat.lt_of_lt_of_le hlt.2 (below_setCells (Nat.le_refl g) (List.replicate k (Value.int .u8 0)) l.length w (Below.refl _ _)).size) (fun j c hj => ?_)
      rw [Nat.zero_add]
      by_cases hjl : j < l.length
      · rw [List.getElem?_append_left hjl] at hj
        rw [World.cell?_setCells_out g _ _ _ _ (fun _ _ => .inl hjl)]
        exact hcells j c hj
      · rw [List.getElem?_append_right (by omega)] at hj
        have hjk : j - l.length < k := by have := (List.getElem?_eq_some_iff.1 hj).1; simpa using this
        have := World.cell?_setCells_in g (List.replicate k (.int .u8 0)) l.length w (fun i hi => (hrow _ (by simp at hi; omega)).1) (j - l.length) (by simpa using hjk)
        rw [show l.length + (j - l.length) = j by omega] at this
        rw [this]
        obtain ⟨_, e⟩ := List.getElem?_eq_some_iff.1 hj
        simp at e ⊢
        rw [← e]; rfl
    · exact below_setCells hlt.1 _ _ _ (Below.refl _ _)
  · have hold : (Builtin.firstCells i0.size l.length (.slice (some ⟨g, 0, none⟩) l.length cap)).run Tryz.prog w.drew = .ok (l.map fun c => Value.int .u8 (c.toNat : Int)).toArray w.drew := by
      rw [hz1]
      exact run_firstCells_some w.drew 1 l.length ⟨g, 0, none⟩ l.length cap _ (by simp) (fun j u hj => by
        rw [List.getElem?_map] at hj
        obtain ⟨c, hc, rfl⟩ := Option.map_eq_some_iff.1 hj
        rw [Addr.add_lit]
        simpa using hcells j c hc)
    have hr := Lib.run_append_grow_zeros (P := Tryz.prog) w 83 3 83 5 i0 _ .i64 .i64 Tryz.underlying83 Tryz.underlying3 hi hz0 (some ⟨g, 0, none⟩) l.length cap _ hold k h0 (by rw [hz1]; decide) (by omega) (by omega) (by rw [hz2]; omega) (by rw [hz2]; have := nextslicecap_le (need := l.length + k) (old := cap) (by omega); omega)
    refine ⟨_, _, _, hr, ?_, (Below.refl _ _).drew.alloc hbase _⟩
    refine bytes_at (by simp) (fun j c hj => ?_)
    rw [Nat.zero_add, show w.heap.size = w.drew.heap.size from rfl, World.cell?_alloc_new]
    rw [zero_rep]
    have hjl : j < l.length + k := by have := (List.getElem?_eq_some_iff.1 hj).1; simpa using this
    by_cases h2 : j < l.length
    · rw [List.getElem?_append_left h2] at hj
      rw [Array.append_assoc, Array.getElem?_append_left (by simpa using h2)]
      simp [hj]
    · rw [List.getElem?_append_right (by omega)] at hj
      obtain ⟨_, e⟩ := List.getElem?_eq_some_iff.1 hj
      rw [Array.getElem?_append_left (by simp; omega), Array.getElem?_append_right (by simp; omega)]
      simp at e ⊢
      rw [← e, Array.getElem?_eq_getElem (by simp; omega)]
      simp
end Go.Proofs.YtdebfnlnpfienaaGreatDoor
