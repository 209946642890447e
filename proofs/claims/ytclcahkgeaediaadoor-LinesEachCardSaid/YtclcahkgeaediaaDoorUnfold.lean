/- Lines unfolded: the program's Unfold. -/
import Derived.Test.YtclcahkgeaediaaDoorWhole2
namespace Go.Proofs.YtclcahkgeaediaaDoor
open Go.RowKit Go.Shelf Lift
set_option linter.unusedSimpArgs false
set_option linter.unusedVariables false
attribute [local go_sem] Oper.semAt_some

theorem wpListIn_append2 {F : Fence} {nn : Nat} {P : Program} {w : World} {ops : Array Oper} {rest : List Oper} {o : Oper} {a : Act} {Q : Exit → Act → World → Prop} (hgd : o.guard = none) (s x : Operand) (t : TypeId)
    (ho : o.op = .call { callee := .builtin .append, args := #[s, x], argTypes := #[t, t] })
    (base : Nat) (e : TypeId) (i : TypeInfo) (z : Value) (size bytes : Nat) (ht : P.underlying t = some (.slice e)) (hi : P.info? e = some i) (hz : i.zero = some z)
    (hsize : i.size = size) (hby : i.bytes = bytes) (hzs : z.cells.size = size) (hsz : 0 < size)
    (v : Value) (n : Nat) (xs : List Value) (hs : a.eval s = v) (hown : w.ownsRow base e size v n xs)
    (ao : Option Addr) (m c : Nat) (news : List Value) (hx : a.eval x = .slice ao m c) (hnone : ao = none → m = 0 ∧ c = 0) (hl : news.length = m * size) (hnews : ∀ a, ao = some a → ∀ j u, news[j]? = some u → w.cell? (a.add j) = some u) (h1 : ∀ u ∈ news, u.oneCell' = true)
    (h63 : n + m ≤ maxLen) (hbytes : (n + m) * bytes ≤ 140737488355328) (hbase : base ≤ w.heap.size)
    (h : ∀ v' w', w'.ownsRow base e size v' (n + m) (xs ++ news) → w.grownBy w' v.ownBlock → (v' = .slice none 0 0 ↔ v = .slice none 0 0 ∧ m = 0) → (v'.ownBlock = v.ownBlock ∨ ∃ g, v'.ownBlock = some g ∧ w.heap.size ≤ g) → wpListIn F nn P ops Q rest (a.put o.dst v') w') :
    wpListIn F nn P ops Q (o :: rest) a w := by
  refine wpListIn_plain hgd fun K hK => ?_
  obtain ⟨v', w', hrun, h2, h3, h4, h5⟩ := run_append_own2 (P := P) w base t o.type e i z size bytes ht hi hz hsize hby hzs hsz v n xs hown ao m c news hnone hl hnews h1 h63 hbytes hbase
  unfold Oper.wpIn
  refine ⟨?_, ?_⟩
  · simp [Oper.about, ho, resolve, Target.leads, Sem.run_pure]
  · rw [Oper.semAt_plain F _ _ (by rw [ho]; intro c hc'; cases hc')]
    simp [execOp, ho, resolve, invoke, builtin, hs, hx, hrun, Result.andThen]
    exact hK _ _ (h v' w' h2 h3 h4 h5)
theorem wpListIn_push {α : Type} (r : Rd α) {F : Fence} {nn : Nat} {P : Program} {w0 : World} {ops : Array Oper} {rest : List Oper} {o : Oper} {a : Act} {Q : Exit → Act → World → Prop} (hgd : o.guard = none) (s x : Operand) (t : TypeId)
    (ho : o.op = .call { callee := .builtin .append, args := #[s, x], argTypes := #[t, t] })
    (base : Nat) (e : TypeId) (i : TypeInfo) (z : Value) (bytes : Nat) (ht : P.underlying t = some (.slice e)) (hi : P.info? e = some i) (hz : i.zero = some z)
    (hsize : i.size = r.n) (hby : i.bytes = bytes) (hzs : z.cells.size = r.n) (hsz : 0 < r.n)
    (S : Nat → Prop) (v : Value) (l : List α) (hs : a.eval s = v) (hO : Lift.Own r S w0 base e v l) (cs : List Value) (c : α) (g : Nat) (hx : a.eval x = .slice (some ⟨g, 0, none⟩) 1 1) (hgz : g = w0.heap.size)
    (hc : r.rel (fun b => S b ∧ some b ≠ v.ownBlock) w0 cs c) (h1 : ∀ u ∈ cs, u.oneCell' = true)
    (h63 : l.length + 1 ≤ maxLen) (hbytes : (l.length + 1) * bytes ≤ 140737488355328) (hbase : base ≤ w0.heap.size)
    (h : ∀ v' w', Lift.Own r S w' base e v' (l ++ [c]) → Kept (fun k => some k = v.ownBlock) w0 w' → (v'.ownBlock = v.ownBlock ∨ ∃ g, v'.ownBlock = some g ∧ w0.heap.size < g) → wpListIn F nn P ops Q rest (a.put o.dst v') w') :
    wpListIn F nn P ops Q (o :: rest) a (w0.alloc (.cells cs.toArray e)) := by
  subst hgz
  obtain ⟨xs, hown, hrows⟩ := hO
  have hb0 : Below w0.heap.size w0 (w0.alloc (.cells cs.toArray e)) := (Below.refl _ w0).alloc (Nat.le_refl _) _
  refine wpListIn_append2 hgd s x t ho base e i z r.n bytes ht hi hz hsize hby hzs hsz v l.length xs hs (hown.alloc _) _ 1 1 cs hx (by intro h; cases h) (by rw [Nat.one_mul]; exact r.len _ _ _ _ hc) (cells_new _ cs e) h1 h63 hbytes (by simp; omega) ?_
  intro v' w' hown2 hg _ hw
  refine h v' w' (Own.append (hrows.below hb0) (by simpa using (RowsOf.nil r _ _).snoc (r.below hc hb0)) hown2 (by simp) hg hw) (Kept.push hg) ?_
  rcases hw with hw | ⟨g, hw, hgg⟩
  · exact .inl hw
  · exact .inr ⟨g, hw, by simp at hgg; omega⟩
/-- A row of the call's own stands where no cells are written. -/
theorem own_kept_row {α : Type} {r : Rd α} (hf : Flat r) {S : Nat → Prop} {A B : World} {base : Nat} {e : TypeId} {v : Value} {l : List α} {row : Option Nat} (h : Lift.Own r S A base e v l) (hg : A.grownBy B row) (hr : ∀ k, row = some k → ∃ o : Obj, A.heap[k]? = some o ∧ o.isCells = false) : Lift.Own r S B base e v l :=
  h.flat hf (Kept.of_grown hg) (fun k hk e => by
    obtain ⟨o, ho, hc⟩ := hr k e.symm
    obtain ⟨xs, h1, _⟩ := h
    rcases h1.2 with ⟨rfl, _⟩ | ⟨g, cap, cur, rfl, _, hgg, _⟩
    · cases hk
    · obtain rfl : g = k := by injection hk
      rw [ho] at hgg
      cases hgg
      cases hc)
theorem kept_t {X : Nat → Prop} {A B C : World} (h : Kept X A B) (k : Kept X B C) : Kept X A C := h.trans k (fun _ _ h => h) (fun _ _ h => h)
theorem kept_put {X : Nat → Prop} (W : World) (l : Nat) (o' : Obj) (hX : X l) : Kept X W (W.putObj l o') := (Kept.of_grown (grownBy_putObj' W l o')).wide (fun k _ e => by cases e; exact hX)

/-- Texts of whatever size. -/
def strU : Rd ByteArray where
  n := 1
  rel _ _ cs a := cs = [.string a]
  len := by rintro _ w cs a rfl; rfl
  mono := fun _ _ _ _ _ h _ => h
  kept := fun _ _ _ _ _ _ h _ _ => h
theorem strU_flat : Flat strU := fun _ _ _ _ _ _ h => h
theorem strU_own {S : Nat → Prop} {w : World} {base : Nat} {e : TypeId} {v : Value} {l : List ByteArray} (h : Lift.Own strU S w base e v l) (hl : ∀ c ∈ l, c.size ≤ maxTx) : Lift.Own Rd.str S w base e v l := by
  obtain ⟨xs, h1, css, h2, h3, h4⟩ := h
  refine ⟨xs, h1, css, h2, h3, fun k c hc => ?_⟩
  obtain ⟨cs, h5, h6⟩ := h4 k c hc
  exact ⟨cs, h5, h6, hl c (List.mem_of_getElem? hc)⟩
theorem whole_in (n : Nat) (ao : Option Addr) (len cap : Nat) (w : World) :
    CallsIn Fence.wide n Tryd.prog 17 #[.slice ao len cap] w fun e w' => e = .returned (.func (.func 26) #[] #[.pointer (some ⟨w.heap.size, 0, none⟩)]) ∧ w' = w.alloc (.cells #[.slice ao len cap] 22) := by
  refine callsIn_of_wp Tryd.func17 rfl trivial ?_ rfl
  simp only [Tryd.ntmps17, List.size_toArray, List.length_cons, List.length_nil, Nat.reduceAdd, Nat.reduceSub, Array.replicate_succ, Array.replicate_zero, List.push_toArray, List.append_toArray, List.nil_append, List.cons_append]
  gi_wp2
  go_ret
  exact ⟨rfl, rfl⟩
theorem whole_stops (n : Nat) (hn : 1 ≤ n) (Bs : Nat) (X : Nat → Prop) (ao : Option Addr) (cap : Nat) (l : List ByteArray) (hlen : l.length ≤ 100000) (hsum : sumB l ≤ 1000000) (hcap : l.length ≤ cap) (hcm : cap ≤ maxLen) (w : World) (hBs : Bs < w.heap.size) (hBX : ¬ X Bs)
    (hc : w.cell? ⟨Bs, 0, none⟩ = some (.slice ao l.length cap)) (hl : SlAt Rd.str (fun b => ¬ X b) w ao l) :
    SeqStopsK Fence.wide n Tryd.prog 26 #[.pointer (some ⟨Bs, 0, none⟩)] encNL (Kept X) (fun ys => ys = numb l l.length) (fun pre => pre <+: numb l l.length) l.length w := fun lp J Jx W hW hJ _ hY h0 =>
  whole1_in n hn lp Bs X ao cap l hlen hsum hcap hcm J Jx W hJ hY ((hW.cell (p := ⟨Bs, 0, none⟩) hBs).trans hc) (Nat.lt_of_lt_of_le hBs hW.size) hBX (hl.kept (Kept.of_below hW (fun _ => False)) (fun _ _ _ h => h)) h0

theorem cell_push {W w2 : World} {bo : Nat} {e : TypeId} {v u : Value} {l : List ByteArray} (hO : Lift.Own strU (fun _ => True) W (bo + 2) e v l) (hK : Kept (fun k => some k = v.ownBlock) W w2) (hb : bo < W.heap.size) (c0 : W.cell? ⟨bo, 0, none⟩ = some u) (g0 : W.frozen? ⟨bo, 0, none⟩ = false) :
    w2.cell? ⟨bo, 0, none⟩ = some u ∧ w2.frozen? ⟨bo, 0, none⟩ = false ∧ bo < w2.heap.size := by
  have hn : ¬ (some bo = v.ownBlock) := fun e => by have := (hO.lt _ e.symm).1; omega
  have hz := hK.size
  exact ⟨(hK.cell (p := ⟨bo, 0, none⟩) hb hn).trans c0, (hK.frozen (p := ⟨bo, 0, none⟩) hb hn).trans g0, by omega⟩
theorem keeps_own {α : Type} {r : Rd α} {S : Nat → Prop} {W w2 : World} {base : Nat} {e : TypeId} {v : Value} {l : List α} (h : Lift.Own r S W base e v l) (hK : Kept (fun k => some k = v.ownBlock) W w2) : KeepsOthers W w2 :=
  ⟨hK.size, fun k o hk ho => by
    by_cases e : some k = v.ownBlock
    · exfalso
      obtain ⟨xs, h1, _⟩ := h
      rcases h1.2 with ⟨rfl, _⟩ | ⟨g, cap, cur, rfl, _, hgg, _⟩
      · cases e
      · obtain rfl : k = g := by injection e
        rw [hk] at hgg; cases hgg; cases ho
    · exact (hK.block k (Array.getElem?_eq_some_iff.1 hk).1 e).trans hk⟩
theorem numb_size (l : List ByteArray) : ∀ x ∈ numb l l.length, x.2.size ≤ sumB l := by
  have h : ∀ k, k ≤ l.length → ∀ x ∈ numb l k, x.2.size ≤ sumB (l.take k) := by
    intro k
    induction k with
    | zero => intro _ x hx; simp [numb] at hx
    | succ k ih =>
      intro hk x hx
      obtain ⟨c, hc⟩ := some_at (l := l) (k := k) (by omega)
      have ht := sumB_take hc
      have ih' := ih (by omega)
      by_cases h1 : blAt c 0 = true ∧ numb l k ≠ []
      · rw [numb_add hc h1.1 h1.2] at hx
        obtain ⟨m, p, hmp⟩ : ∃ m p, numb l k = m ++ [p] := ⟨_, _, (List.dropLast_concat_getLast h1.2).symm⟩
        rw [hmp, addLast_snoc] at hx
        rw [hmp] at ih'
        rcases List.mem_append.1 hx with hx | hx
        · have := ih' x (List.mem_append_left _ hx); omega
        · rw [List.mem_singleton.1 hx]
          have h2 := ih' p (by simp)
          have h3 : (⟨(p.2.data.toList ++ c.data.toList).toArray⟩ : ByteArray).size = p.2.size + c.size := by
            show (p.2.data.toList ++ c.data.toList).toArray.size = _
            simp
          simp only [h3]; omega
      · rw [numb_new hc h1] at hx
        rcases List.mem_append.1 hx with hx | hx
        · have := ih' x hx; omega
        · rw [List.mem_singleton.1 hx]; simp only; omega
  intro x hx
  have := h l.length (Nat.le_refl _) x hx
  rwa [List.take_length] at this
theorem unfold_in (n : Nat) (hn : 4 ≤ n) (ao : Option Addr) (cap : Nat) (l : List ByteArray) (w : World) (hl : SlAt Rd.str (· < w.heap.size) w ao l) (hlen : l.length ≤ 100000) (hsum : sumB l ≤ 1000000) (hcap : l.length ≤ cap) (hcm : cap ≤ maxLen) :
    CallsIn Fence.wide n Tryd.prog 9 #[.slice ao l.length cap] w fun e W' => RowPost Rd.str 9 ((numb l l.length).map (·.2)) w e W' := by
  have h1 : 1 ≤ n := by omega
  refine callsIn_of_wp_marks Tryd.func9 rfl trivial ?_ rfl
  simp only [Tryd.ntmps9, List.size_toArray, List.length_cons, List.length_nil, Nat.reduceAdd, Nat.reduceSub, Array.replicate_succ, Array.replicate_zero, List.push_toArray, List.append_toArray, List.nil_append, List.cons_append]
  have hfK : Fence.wide.fn 17 := trivial
  gi_wp2_with (gi_at_call 17; refine (whole_in (n - 1) _ _ _ _).mono ?_; rintro e w' ⟨rfl, rfl⟩)
  obtain ⟨i0, hi, hz0, hz1, hz2⟩ := str_info0
  have HI := Lib.hid hi; have HZ0 := Lib.hid hz0; have HZ1 := Lib.hid hz1; have HZ2 := Lib.hid hz2
  clear hi hz0 hz1 hz2
  obtain ⟨W0, hW0⟩ : ∃ W0, ((w.alloc (.cells #[.slice none 0 0] 22)).alloc (.cells #[.slice ao l.length cap] 22)) = W0 := ⟨_, rfl⟩
  have hsz : W0.heap.size = w.heap.size + 2 := by subst hW0; simp
  have hB0 : Below w.heap.size w W0 := by subst hW0; exact ((Below.refl _ w).alloc (Nat.le_refl _) _).alloc (by simp) _
  have e0 : W0.cell? ⟨w.heap.size, 0, none⟩ = some (.slice none 0 0) := by subst hW0; simp [go_sem]
  have f0 : W0.frozen? ⟨w.heap.size, 0, none⟩ = false := by subst hW0; simp [go_sem]
  have e1 : W0.cell? ⟨w.heap.size + 1, 0, none⟩ = some (.slice ao l.length cap) := by subst hW0; simp [go_sem]
  rw [hW0]
  clear hW0
  refine wpIn_rangeFunc_ownH (F := Fence.wide) rfl h1 (gf := 26) (lb := #[.pointer (some ⟨w.heap.size + 1, 0, none⟩)]) rfl trivial (enters_of Tryd.func26 (by kernel_rfl) rfl)
    (whole_stops (n - 1) (by omega) (w.heap.size + 1) (fun k => k = w.heap.size ∨ W0.heap.size ≤ k) ao cap l hlen hsum hcap hcm W0 (by omega) (by omega) e1 ((hl.old hB0).mono (fun b hb _ => by omega))) kept_t (fun W k o o' hk _ _ _ => kept_put W k o' (.inr hk)) (Below.refl _ _) (fun _ => rfl)
    (fun pre W => (∃ v, W.cell? ⟨w.heap.size, 0, none⟩ = some v ∧ W.frozen? ⟨w.heap.size, 0, none⟩ = false ∧ Lift.Own strU (fun _ => True) W (w.heap.size + 2) 9 v (pre.map (·.2))) ∧ Below w.heap.size w W ∧ W0.heap.size ≤ W.heap.size)
    (fun c pre W => False)
    ?inv (fun c => fun _ _ _ _ h _ _ => h)
    ⟨⟨_, e0, f0, Lift.Own.nil _ _ _ _ _⟩, hB0, Nat.le_refl _⟩
    (fun x a' W => a' = { tmps := #[.slice ao l.length cap, undef, .slice none 0 0, .pointer (some ⟨w.heap.size, 0, none⟩), undef, .string x.2, .slice ao l.length cap, .func (.func 26) #[] #[.pointer (some ⟨w.heap.size + 1, 0, none⟩)], .int .i64 x.1, .string x.2, undef, undef, undef, undef, undef], defers := [] })
    (fun x a' => fun _ _ _ _ h _ _ => h) ?assign ?body ?done ?stop
  case inv =>
    rintro pre W W' row ⟨⟨v, c0, g0, hO⟩, hB, hWz⟩ hg hr
    have hr2 : ∀ k, row = some k → ∃ o : Obj, W.heap[k]? = some o ∧ o.isCells = false := fun k e => (hr k e).2
    exact ⟨⟨v, cell_kept c0 hg hr2, (frozen_kept c0 hg hr2).trans g0, own_kept_row strU_flat hO hg hr2⟩, hB.grown hg (by omega) (fun k e => by have := (hr k e).1; omega), Nat.le_trans hWz (Kept.of_grown hg).size⟩
  case assign =>
    rintro lp pre x W K hI hK
    simp only [encNL]
    gi_wp2
    exact hK _ _ ((KeepsOthers.refl _).from _) (Kept.refl _ _) hI rfl
  case body =>
    rintro lp pre x a' W hlp hr ⟨⟨v, c0, g0, hO⟩, hB, hWz⟩ rfl hlen'
    have hbl : w.heap.size < W.heap.size := by omega
    have hpl : (pre.map (·.2)).length < l.length := by simpa using hlen'
    obtain ⟨ao2, cap2, rfl⟩ := hO.form
    obtain ⟨m, hm⟩ : ∃ m, pre.map (·.2) = m := ⟨_, rfl⟩
    rw [hm] at hO c0 hpl
    have HM := Lib.hid hm
    clear hr hm hlen'
    have hlt := Lib.hid hO.lt
    gi_wp2_with (first | (gi_at_builtin; refine wpListIn_push strU rfl _ _ 22 rfl (w.heap.size + 2) 9 i0 _ 16 Tryd.underlying22 HI.out HZ0.out HZ1.out HZ2.out rfl (by decide) (fun _ => True) _ m rfl hO [.string x.2] x.2 _ rfl (by simp) rfl (by simp [Value.oneCell']) (by unfold maxLen; omega) (by omega) (by omega) ?_; intro v2 w2 hO2 hK2 hw2; obtain ⟨ao3, cap3, rfl⟩ := hO2.form; obtain ⟨m1, m2, m3⟩ := cell_push hO hK2 hbl c0 g0))
    have hO3 : Lift.Own strU (fun _ => True) (w2.setCell ⟨w.heap.size, 0, none⟩ (.slice ao3 (m.length + 1) cap3)) (w.heap.size + 2) 9 (.slice ao3 (m.length + 1) cap3) (m ++ [x.2]) := by
      have h := hO2.low strU_flat ((Kept.setCell (X := (· = w.heap.size)) w2 (p := ⟨w.heap.size, 0, none⟩) rfl (.slice ao3 (m.length + 1) cap3)).wide (fun k _ e => by omega))
      rw [List.length_append, List.length_singleton] at h
      exact h
    have hz2 := hK2.size
    have hbig : ∀ k, some k = (Value.slice ao2 m.length cap2).ownBlock → w.heap.size + 2 ≤ k := fun k e => (hlt.out k e.symm).1
    refine ⟨((keeps_own hO hK2).trans (KeepsOthers.setCell _ _ _)).from _, ?_, ⟨_, World.cell?_setCell_same _ _ _ m1, by rw [World.frozen?_setCell]; exact m2, by rw [List.map_append, HM.out]; exact hO3⟩, ?_, by simp; omega⟩
    · exact kept_t (hK2.wide (fun k _ e => .inr (by have := hbig k e; omega))) (Kept.setCell (X := fun k => k = w.heap.size ∨ W0.heap.size ≤ k) _ (p := ⟨w.heap.size, 0, none⟩) (.inl rfl) _)
    · exact (hB.trans (hK2.below (by omega) (fun k e => by have := hbig k e; omega))).setCell (by simp) _
  case done =>
    rintro D ys W hD rfl ⟨⟨v, c0, g0, hO⟩, hB, hWz⟩ hK
    obtain ⟨ao2, cap2, rfl⟩ := hO.form
    have hbl : w.heap.size < W.heap.size := by omega
    have hOO := strU_own hO (fun c hc => by
      obtain ⟨x, hx, rfl⟩ := List.mem_map.1 hc
      have := numb_size l x hx
      unfold maxTx; omega)
    obtain ⟨m, hm⟩ : ∃ m, (numb l l.length).map (·.2) = m := ⟨_, rfl⟩
    rw [hm] at c0 hOO
    have HM := Lib.hid hm
    clear hm hO
    gi_wp2
    refine ⟨by simp, .inl ⟨_, _, rfl, run_takeDeferred hK, ?_⟩⟩
    have hDc := hK
    have hfin : RowPost Rd.str 9 ((numb l l.length).map (·.2)) w (.returned (.slice ao2 m.length cap2)) (W.putObj D (.deferred none)) :=
      ⟨ao2, cap2, by rw [HM.out], by rw [HM.out]; exact (own_kept_row str_flat hOO (grownBy_putObj' _ D (.deferred none)) (fun r e => by cases e; exact ⟨_, hK, rfl⟩)).rebase (by omega), hB.trans (belowK_b (w := w) (Nat.le_refl _) W D (.deferred (some [])) (.deferred none) (by omega) hK rfl rfl)⟩
    exact ⟨.slice ao2 m.length cap2, by simp [results, Tryd.f9, go_sem], hfin⟩
  case stop => rintro D c pre W hD hpre h hK; exact h.elim
end Go.Proofs.YtclcahkgeaediaaDoor
