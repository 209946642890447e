/- A journal: how its data lie in memory, and its small methods. -/
import Derived.Test.YtdebfnlnpfienaaGreatDoorJnPure
import Derived.Test.YtdebfnlnpfienaaGreatDoorStrs
import Derived.Test.YtdebfnlnpfienaaGreatDoorPlB
namespace Go.Proofs.YtdebfnlnpfienaaGreatDoor
open Go.RowKit Lift
set_option linter.unusedSimpArgs false
set_option linter.unusedVariables false

/-- Where a journal lies. -/
structure JF where
  b : Nat
  lv : Value
def jnCells (pb : Nat) (J : JF) (js : JSt) : Array Value := #[.pointer (some ⟨pb, 0, none⟩), .int .i64 js.lim, .int .u32 js.gen, J.lv, .int .i64 js.en, .bool js.dead]
structure JRaw (base : Nat) (w : World) (F : Fp) (st : St) (J : JF) (js : JSt) : Prop where
  raw : Raw base w F st
  blk : w.heap[J.b]? = some (.cells (jnCells F.b J js) 106 (0, 0))
  own : Own Rd.str (fun _ => True) w base 9 J.lv js.recs
  bb : base ≤ J.b
  gen : js.gen < 4294967296
  en : js.en < js.lim
  lim : js.lim ≤ st.no.length
  len : js.recs.length ≤ js.en
  n1 : ¬ foot F J.b
  n2 : ∀ k, J.lv.ownBlock = some k → ¬ foot F k ∧ k ≠ J.b
/-- A block of the plate's or the journal's. -/
def jfoot (F : Fp) (J : JF) (k : Nat) : Prop := foot F k ∨ k = J.b ∨ some k = J.lv.ownBlock
section
variable {base : Nat} {w w' : World} {F : Fp} {st : St} {J : JF} {js : JSt}
theorem JRaw.lt (h : JRaw base w F st J js) : J.b < w.heap.size := (Array.getElem?_eq_some_iff.1 h.blk).1
theorem JRaw.inb (h : JRaw base w F st J js) : ∀ k, jfoot F J k → k < w.heap.size := by
  rintro k (hk | rfl | hk)
  · exact h.raw.inb k hk
  · exact h.lt
  · exact (h.own.lt k hk.symm).2
theorem JRaw.ge (h : JRaw base w F st J js) : ∀ k, jfoot F J k → base ≤ k := by
  rintro k (hk | rfl | hk)
  · exact h.raw.ge k hk
  · exact h.bb
  · exact (h.own.lt k hk.symm).1
theorem JRaw.kept {X : Nat → Prop} (h : JRaw base w F st J js) (hk : Kept X w w') (hx : ∀ k, jfoot F J k → ¬ X k) : JRaw base w' F st J js :=
  { h with
    raw := h.raw.kept hk (fun k hf => hx k (.inl hf))
    blk := (hk.block J.b h.lt (hx _ (.inr (.inl rfl)))).trans h.blk
    own := h.own.flat str_flat hk (fun k e => hx k (.inr (.inr e.symm))) }
theorem JRaw.below (h : JRaw base w F st J js) (hb : Below w.heap.size w w') : JRaw base w' F st J js :=
  h.kept (Kept.of_below hb (fun _ => False)) (fun _ _ h => h)
theorem JRaw.rebase {base' : Nat} (h : JRaw base w F st J js) (hb : base' ≤ base) : JRaw base' w F st J js :=
  { h with raw := h.raw.rebase hb, own := h.own.rebase hb, bb := Nat.le_trans hb h.bb }
theorem JRaw.cells (h : JRaw base w F st J js) :
    w.cell? ⟨J.b, 0, none⟩ = some (.pointer (some ⟨F.b, 0, none⟩)) ∧ w.cell? ⟨J.b, 1, none⟩ = some (.int .i64 js.lim) ∧ w.cell? ⟨J.b, 2, none⟩ = some (.int .u32 js.gen) ∧ w.cell? ⟨J.b, 3, none⟩ = some J.lv ∧ w.cell? ⟨J.b, 4, none⟩ = some (.int .i64 js.en) ∧ w.cell? ⟨J.b, 5, none⟩ = some (.bool js.dead) :=
  ⟨cell_of_row w _ _ _ _ _ h.blk, cell_of_row w _ _ _ _ _ h.blk, cell_of_row w _ _ _ _ _ h.blk, cell_of_row w _ _ _ _ _ h.blk, cell_of_row w _ _ _ _ _ h.blk, cell_of_row w _ _ _ _ _ h.blk⟩
theorem JRaw.free (h : JRaw base w F st J js) (i : Nat) : w.frozen? ⟨J.b, i, none⟩ = false := frozen_of_row w _ _ _ _ h.blk
theorem JRaw.form (h : JRaw base w F st J js) : ∃ ao cap, J.lv = .slice ao js.recs.length cap := h.own.form
theorem JRaw.bd (h : JRaw base w F st J js) : js.lim ≤ 8192 ∧ js.en < 8192 ∧ js.recs.length < 8192 := by
  have := h.lim; have := h.raw.n2; have := h.en; have := h.len; omega
end
/-- What a step of a journal leaves. -/
def JPost (base : Nat) (F : Fp) (J : JF) (st : St) (js : JSt) (v : Value) (w : World) (e : Ending) (w' : World) : Prop :=
  ∃ F' J', e = .returned v ∧ JRaw base w' F' st J' js ∧ F'.b = F.b ∧ J'.b = J.b ∧ (∀ k, jfoot F' J' k → jfoot F J k ∨ w.heap.size ≤ k) ∧ Kept (jfoot F J) w w'

/-! ### Need, Left, Len -/
def needI (n : Int) : Int := if n < 0 ∨ 1048576 < n then 0 else (needN n.toNat : Int)
theorem needI_nat {n : Nat} (h : n ≤ 1048576) : needI (n : Int) = (needN n : Int) := by unfold needI; rw [if_neg (by omega)]; simp
set_option maxHeartbeats 1000000 in
set_option maxRecDepth 100000 in
theorem need_any (n : Int) (hn : Wf n) (w : World) : Calls Tryz.prog 33 #[.int .i64 n] w (IntPost .i64 (needI n) w) := by
  by_cases h1 : n < 0
  · have hd : decide (n < 0) = true := by simpa using h1
    rw [show needI n = 0 by unfold needI; rw [if_pos (.inl h1)]]
    go_enter Tryz.func33, Tryz.ntmps33
    go_wp2_with fail
    go_ret
    exact ⟨rfl, rfl⟩
  · have hd : decide (n < 0) = false := by simpa using h1
    by_cases h2 : 1048576 < n
    · have hd2 : decide (1048576 < n) = true := by simpa using h2
      rw [show needI n = 0 by unfold needI; rw [if_pos (.inr h2)]]
      go_enter Tryz.func33, Tryz.ntmps33
      go_wp2_with fail
      go_ret
      exact ⟨rfl, rfl⟩
    · have hd2 : decide (1048576 < n) = false := by simpa using h2
      obtain ⟨k, rfl⟩ := Int.eq_ofNat_of_zero_le (by omega : 0 ≤ n)
      have hk : k ≤ 1048576 := by omega
      have e : ((k : Int) + 64 - 1).tdiv 64 = (((k + 63) / 64 : Nat) : Int) := by
        rw [show (k : Int) + 64 - 1 = ((k + 63 : Nat) : Int) by omega]; exact (Int.ofNat_tdiv _ _).symm
      have hq : (k + 63) / 64 ≤ 20000 := by omega
      rw [needI_nat hk]
      unfold needN
      generalize (k + 63) / 64 = q at *
      clear hn h1 h2
      go_enter Tryz.func33, Tryz.ntmps33
      go_wp2_with fail
      go_ret
      exact ⟨by congr 2, rfl⟩
set_option maxHeartbeats 1000000 in
set_option maxRecDepth 100000 in
theorem left_any {base : Nat} {w : World} {F : Fp} {st : St} {J : JF} {js : JSt} (h : JRaw base w F st J js) : Calls Tryz.prog 30 #[.pointer (some ⟨J.b, 0, none⟩)] w (BelowPost (.int .i64 (leftI js)) w) := by
  obtain ⟨c0, c1, c2, c3, c4, c5⟩ := h.cells
  obtain ⟨b1, b2, b3⟩ := h.bd
  have he := h.en
  unfold leftI
  clear h
  have q1 : ∀ x w, (Builtin.min_ #[3, 3] 3 #[.int .i64 1048576, .int .i64 x]).run Tryz.prog w = .ok (.int .i64 (min 1048576 x)) w := fun x w => by
    simp [Builtin.min_, Builtin.min2, go_sem]; omega
  have q2 : ∀ x w, (Builtin.max_ #[3, 3] 3 #[.int .i64 (-1), .int .i64 x]).run Tryz.prog w = .ok (.int .i64 (max (-1) x)) w := fun x w => by
    simp [Builtin.max_, Builtin.max2, go_sem]; omega
  go_enter Tryz.func30, Tryz.ntmps30
  go_wp2_with fail
  (refine wp_region_quiet_lit (by kernel_rfl) (by kernel_rfl) ?_; (repeat (any_goals (first | go_big_quiet_step (fail) | quiet_step (fail) | (refine wpQuiet_step (fun K hK => ?_); go_simp; split <;> (refine hK _ ?_; clear hK K))))); all_goals (refine wpQuiet_nil ?_; intro _ hw'; obtain ⟨nq, hw''⟩ := hw'; subst hw''))
  go_wp2_with fail
  go_ret
  exact ⟨rfl, below_drewN (Below.refl _ _) _⟩
end Go.Proofs.YtdebfnlnpfienaaGreatDoor
