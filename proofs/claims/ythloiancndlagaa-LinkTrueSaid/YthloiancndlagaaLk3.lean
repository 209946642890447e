/- A link: a packet is taken off. -/
import Derived.Test.YthloiancndlagaaLk2
import Derived.Lib.FrozenHead2
namespace Lift
open Go Go.ChangeShapes Go.WideShapes Go.ChangeAt Go.RowKit Go.Deep
set_option linter.unusedVariables false
theorem SlAt.from' {α : Type} {r : Rd α} {S : Nat → Prop} {w : World} {b off : Nat} {l : List α} (h : SlAt r S w (some ⟨b, off, none⟩) l) (k : Nat) : SlAt r S w (some ⟨b, off + k * r.n, none⟩) (l.drop k) := by
  rcases h with rfl | ⟨b', off', e, hs, hlt, h⟩
  · exact .inl (by simp)
  · injection e with e; injection e with e1 e2
    subst e1; subst e2
    refine .inr ⟨_, _, rfl, hs, hlt, fun j c hj => ?_⟩
    rw [List.getElem?_drop] at hj
    obtain ⟨cs, h1, h2⟩ := h _ c hj
    refine ⟨cs, h1, ?_⟩
    rw [Nat.add_assoc, ← Nat.add_mul]; exact h2
/-- Elements are stored, one behind the other. -/
theorem Own.stores {α : Type} {r : Rd α} (hf : Flat r) {S S' : Nat → Prop} {w : World} {base : Nat} {e : TypeId} {g n cap : Nat} {l m : List α} (h : Own r S w base e (.slice (some ⟨g, 0, none⟩) n cap) l) {i : Nat} {cs : List Value}
    (hm : RowsOf r S' w cs m) (hi : i + m.length ≤ l.length) (hcs : cs.length = m.length * r.n) :
    Own r S (w.setCells g (i * r.n) cs) base e (.slice (some ⟨g, 0, none⟩) n cap) (l.take i ++ m ++ l.drop (i + m.length)) ∧ Kept (fun j => j = g) w (w.setCells g (i * r.n) cs) := by
  obtain ⟨xs, h1, h2⟩ := h
  have hn : n = l.length := by
    obtain ⟨_, _, h3⟩ := own_form h1
    injection h3
  subst hn
  obtain ⟨h3, h4⟩ := owns_sets cs (i * r.n) h1
  have hlen : (l.take i ++ m ++ l.drop (i + m.length)).length = l.length := by simp; omega
  refine ⟨⟨_, by rw [hlen]; simpa using h3, ?_⟩, h4⟩
  have hl := h1.1
  have hb : (i + m.length) * r.n ≤ l.length * r.n := Nat.mul_le_mul_right _ hi
  rw [Nat.add_mul] at hb
  have hr : i * r.n + cs.length ≤ xs.length := by rw [hl, hcs]; exact hb
  refine RowsOf.of_idx (by rw [setsAt_length, hlen]; exact hl) (fun j d hj => ?_)
  by_cases hji : j < i
  · rw [List.append_assoc, List.getElem?_append_left (by rw [List.length_take]; omega), List.getElem?_take_of_lt hji] at hj
    obtain ⟨ds, h5, h6⟩ := h2.idx j d hj
    have hdl := r.len _ _ _ _ h5
    refine ⟨ds, hf _ _ _ _ _ _ h5, fun t v ht => ?_⟩
    have htl := (List.getElem?_eq_some_iff.1 ht).1
    have := Nat.mul_le_mul_right r.n (show j + 1 ≤ i from hji); rw [Nat.succ_mul] at this
    rw [setsAt_get _ _ _ _ hr, if_neg (by omega)]
    exact h6 t v ht
  · by_cases hjm : j < i + m.length
    · rw [List.append_assoc, List.getElem?_append_right (by rw [List.length_take]; omega), List.getElem?_append_left (by rw [List.length_take]; omega), List.length_take, Nat.min_eq_left (by omega)] at hj
      obtain ⟨ds, h5, h6⟩ := hm.idx (j - i) d hj
      have hdl := r.len _ _ _ _ h5
      refine ⟨ds, hf _ _ _ _ _ _ h5, fun t v ht => ?_⟩
      have htl := (List.getElem?_eq_some_iff.1 ht).1
      have e1 : j * r.n = i * r.n + (j - i) * r.n := by rw [← Nat.add_mul]; congr 1; omega
      have := Nat.mul_le_mul_right r.n (show (j - i) + 1 ≤ m.length by omega); rw [Nat.succ_mul] at this
      rw [setsAt_get _ _ _ _ hr, if_pos (by omega), show j * r.n + t - i * r.n = (j - i) * r.n + t by omega]
      exact h6 t v ht
    · rw [List.getElem?_append_right (by simp; omega), List.getElem?_drop] at hj
      have e2 : i + m.length + (j - (l.take i ++ m).length) = j := by simp; omega
      rw [e2] at hj
      obtain ⟨ds, h5, h6⟩ := h2.idx j d hj
      have hdl := r.len _ _ _ _ h5
      refine ⟨ds, hf _ _ _ _ _ _ h5, fun t v ht => ?_⟩
      have htl := (List.getElem?_eq_some_iff.1 ht).1
      have := Nat.mul_le_mul_right r.n (show i + m.length ≤ j by omega); rw [Nat.add_mul] at this
      rw [setsAt_get _ _ _ _ hr, if_neg (by omega)]
      exact h6 t v ht
end Lift
namespace Go.Proofs.Ythloiancndlagaa
open Go.RowKit Lift
set_option linter.unusedSimpArgs false
set_option linter.unusedVariables false

theorem zeroPk (w : World) : (zeroValue 55).run Try.prog w = .ok (.agg #[.string ByteArray.empty, .bool false]) w := by kernel_rfl
set_option maxHeartbeats 4000000 in
set_option maxRecDepth 100000 in
theorem delete_any (base g cap i n : Nat) (l : List Pk) (w : World) (hn : l.length = n + 1) (hi : i ≤ n) (h1000 : n < 1000) (h : Own rPk (fun _ => True) w base 55 (.slice (some ⟨g, 0, none⟩) l.length cap) l) :
    Calls Try.prog 33 #[.slice (some ⟨g, 0, none⟩) (n + 1) cap, .int .i64 i, .int .i64 ((i : Int) + 1)] w (fun e w' => e = .returned (.slice (some ⟨g, 0, none⟩) n cap) ∧ Own rPk (fun _ => True) w' base 55 (.slice (some ⟨g, 0, none⟩) n cap) (l.eraseIdx i) ∧ Kept (fun j => j = g) w w') := by
  obtain ⟨hc1, hc2, _, _⟩ := h.cap
  obtain ⟨i0, hi0, hz0, hz1, hz2⟩ := pk_info0
  have HI := Lib.hid hi0; have HZ1 := Lib.hid hz1
  have HN := Lib.hid hn
  rw [hn] at h hc1
  have hOd : Own rPk (fun _ => True) w.drew base 55 (.slice (some ⟨g, 0, none⟩) (n + 1) cap) l := h.below (Below.refl _ _).drew
  have hAt : SlAt rPk (fun _ => True) w.drew (some ⟨g, 0, none⟩) l := hOd.sl.2.mono (fun _ _ _ => trivial)
  have hDr := hAt.from' (i + 1)
  obtain ⟨ys, hy1, hy2, hy3⟩ := hDr.news
  have hdl : (l.drop (i + 1)).length = n - i := by rw [List.length_drop, hn]; omega
  rw [hdl] at hy1
  have hSt := Own.stores pk_flat hOd (i := i) (m := l.drop (i + 1)) (cs := ys) hy2 (by rw [hdl]; omega) (by rw [hdl]; exact hy1)
  have hlist : (l.take i ++ l.drop (i + 1) ++ l.drop (i + (l.drop (i + 1)).length)).take n = l.eraseIdx i := by
    rw [List.eraseIdx_eq_take_drop_succ, List.take_append_of_le_length (by simp; omega), List.take_of_length_le (by simp; omega)]
  have hln : (l.take i ++ l.drop (i + 1) ++ l.drop (i + (l.drop (i + 1)).length)).length = n + 1 := by simp; omega
  obtain ⟨w2, hw2⟩ : ∃ w2, w.drew.setCells g (i * 2) ys = w2 := ⟨_, rfl⟩
  rw [show i * rPk.n = i * 2 from rfl, hw2] at hSt
  generalize hM : (l.take i ++ l.drop (i + 1) ++ l.drop (i + (l.drop (i + 1)).length)) = M at hSt hlist hln
  have hO2 := hSt.1
  have hcl0 := run_clear_row (P := Try.prog) w2 49 55 0 _ Try.underlying49 zeroPk (by simp [Value.cells, Value.oneCell']) g (n * 2) 1 (cap - n) (by omega) (fun j hj => hO2.isSome (show n * 2 + j < M.length * 2 by simp [Value.cells] at hj; rw [hln]; omega)) (fun j hj => hO2.free _)
  have hcut := hO2.cut (k := n) (cs := (Builtin.zeroCells (Value.cells (.agg #[.string ByteArray.empty, .bool false])) 1).toList) (by omega) (by rw [zeroCells_size, hln]; show n * 2 + 1 * 2 ≤ (n + 1) * 2; omega)
  rw [hlist] at hcut
  obtain ⟨ad, had⟩ : ∃ ad : Addr, (if cap = i + 1 then some (⟨g, 0, none⟩ : Addr) else some ⟨g, (i + 1) * 2, none⟩) = some ad := by split <;> exact ⟨_, rfl⟩
  have HAD := Lib.hid (show ∀ j u, ys[j]? = some u → w.drew.cell? (ad.add j) = some u by
    intro j u hj
    by_cases hcap : cap = i + 1
    · have := (List.getElem?_eq_some_iff.1 hj).1
      rw [hy1] at this
      have h0 : n - i = 0 := by omega
      rw [h0, Nat.zero_mul] at this; omega
    · rw [if_neg hcap] at had
      obtain rfl := Option.some.inj had
      have h9 := hy3 _ rfl j u hj
      rwa [Nat.zero_add] at h9)
  have HONE := Lib.hid (show ∀ u ∈ ys, u.oneCell' = true by
    obtain ⟨css, rfl, hl, hrel⟩ := hy2
    intro u hu
    obtain ⟨cs, hcs, hu2⟩ := List.mem_flatten.1 hu
    obtain ⟨j, hj, rfl⟩ := List.getElem_of_mem hcs
    obtain ⟨cs', h3, h4⟩ := hrel j (l.drop (i + 1))[j] (by simp)
    rw [List.getElem?_eq_getElem hj] at h3
    rw [Option.some.inj h3] at hu2
    exact pk_one _ _ _ _ h4 u hu2)
  have HSP := Lib.hid (show ∀ j, j < ys.length → (w.drew.cell? ⟨g, 0 + i * 2 + j, none⟩).isSome = true ∧ w.drew.frozen? ⟨g, 0 + i * 2 + j, none⟩ = false by
    intro j hj
    rw [hy1] at hj
    have hj : j < (n - i) * 2 := hj
    exact ⟨hOd.isSome (show 0 + i * 2 + j < l.length * 2 by rw [hn]; omega), hOd.free _⟩)
  have HSUM := Lib.hid (show i + (n - i) = n by omega)
  have HW2 := Lib.hid hw2
  have HCUT := Lib.hid hcut
  have HKS := Lib.hid hSt.2
  have HY := Lib.hid hy3
  have HY1 := Lib.hid hy1
  have HOD := Lib.hid hOd
  have HY2 := Lib.hid hy2
  have hi1 : (i : Int) < (n : Int) + 1 := by omega
  have hi2 : (i : Int) + 1 ≤ (n : Int) + 1 := by omega
  have hi3 : (n : Int) + 1 ≤ (cap : Int) := by omega
  have hne : ¬ (i : Int) = (i : Int) + 1 := by omega
  have hj0 : (0 : Int) ≤ (i : Int) + 1 := by omega
  have hj1 : i ≤ cap := by omega
  have hj2 : i + 1 ≤ cap := by omega
  have hj3 : i < cap := by omega
  have hj4 : n + 1 ≤ cap := by omega
  have hj5 : n < cap := by omega
  have hj6 : ¬ cap = n := by omega
  unfold maxLen at hc2
  clear h hOd hAt hDr hy1 hy2 hy3 hSt hO2 hcut hlist hln hM hdl hi0 hz0 hz1 hz2 hn
  go_enter Try.func33, Try.ntmps33
  go_wp2_with fail
  go_region_law (refine step_append_room rfl (.tmp 22) (.tmp 25) 49 rfl 55 i0 2 Try.underlying49 HI.out HZ1.out g 0 i cap (by rfl) ad (n - i) (cap - (i + 1)) ys (by rfl) HY1.out HAD.out HONE.out (by omega) HSP.out ?_; rw [HSUM.out, Nat.zero_add, HW2.out])
  clear had hj1 hj2 hj3 hne hi1 hi2
  go_wp2_with fail
  go_ret
  exact ⟨rfl, HCUT.out.1, (((Kept.drew _ w).trans HKS.out (fun _ _ h => h) (fun _ _ h => h))).trans HCUT.out.2 (fun _ _ h => h) (fun _ _ h => h)⟩
end Go.Proofs.Ythloiancndlagaa
