/- What an Append leaves of a journal. -/
import Derived.Test.YtaljgcdjkmpljaaDoorJnApp1
namespace Go.Proofs.YtaljgcdjkmpljaaDoor
open Go.RowKit Lift
set_option linter.unusedSimpArgs false
set_option linter.unusedVariables false

theorem JRaw.die {base : Nat} {w : World} {F : Fp} {st : St} {J : JF} {js : JSt} (h : JRaw base w F st J js) : JRaw base (w.setCell ⟨J.b, 5, none⟩ (.bool true)) F st J { js with dead := true } := by
  have hk := Kept.setCell (X := fun k => k = J.b) w (p := ⟨J.b, 5, none⟩) rfl (.bool true)
  exact { h with
    raw := h.raw.kept hk (fun k hf e => h.n1 (e ▸ hf))
    blk := by rw [heap_setCell_same w _ 5 _ _ _ h.blk]; rfl
    own := h.own.flat str_flat hk (fun k e => (h.n2 k e).2) }
theorem JRaw.grow {base : Nat} {w w2 : World} {F : Fp} {st : St} {J : JF} {js : JSt} {v2 : Value} {s : ByteArray} {nx : Nat} (h : JRaw base w F st J js) (hK : Kept (fun k => some k = J.lv.ownBlock) w w2) (hO : Own Rd.str (fun _ => True) w2 base 9 v2 (js.recs ++ [s]))
    (hw : v2.ownBlock = J.lv.ownBlock ∨ ∃ g, v2.ownBlock = some g ∧ w.heap.size ≤ g) (h1 : js.en < nx) (h2 : nx < js.lim) :
    JRaw base ((w2.setCell ⟨J.b, 3, none⟩ v2).setCell ⟨J.b, 4, none⟩ (.int .i64 nx)) F st ⟨J.b, v2⟩ { js with recs := js.recs ++ [s], en := nx } ∧ Kept (jfoot F J) w ((w2.setCell ⟨J.b, 3, none⟩ v2).setCell ⟨J.b, 4, none⟩ (.int .i64 nx)) ∧ ∀ k, jfoot F ⟨J.b, v2⟩ k → jfoot F J k ∨ w.heap.size ≤ k := by
  have hlv : ∀ k, v2.ownBlock = some k → some k = J.lv.ownBlock ∨ w.heap.size ≤ k := fun k hk => by
    rcases hw with e | ⟨g, e, hg⟩
    · exact .inl (by rw [← e, hk])
    · rw [e] at hk; cases hk; exact .inr hg
  have hJn : ¬ some J.b = J.lv.ownBlock := fun e => (h.n2 J.b e.symm).2 rfl
  have hb2 : w2.heap[J.b]? = some (.cells (jnCells F.b J js) 70 (0, 0)) := (hK.block J.b h.lt hJn).trans h.blk
  have hk1 := Kept.setCell (X := fun k => k = J.b) w2 (p := ⟨J.b, 3, none⟩) rfl v2
  have hb3 : (w2.setCell ⟨J.b, 3, none⟩ v2).heap[J.b]? = some (.cells (jnCells F.b ⟨J.b, v2⟩ js) 70 (0, 0)) := by rw [heap_setCell_same w2 _ 3 _ _ _ hb2]; rfl
  have hk2 := Kept.setCell (X := fun k => k = J.b) (w2.setCell ⟨J.b, 3, none⟩ v2) (p := ⟨J.b, 4, none⟩) rfl (.int .i64 nx)
  have hne : ∀ k, v2.ownBlock = some k → ¬ k = J.b := fun k hk e => by
    rcases hlv k hk with h1 | h1
    · exact hJn (e ▸ h1)
    · have := h.lt; omega
  have hkk : Kept (fun k => k = J.b ∨ some k = J.lv.ownBlock) w ((w2.setCell ⟨J.b, 3, none⟩ v2).setCell ⟨J.b, 4, none⟩ (.int .i64 nx)) :=
    ((hK.wide (fun k _ e => .inr e)).set (.inl rfl)).set (.inl rfl)
  refine ⟨{ raw := h.raw.kept hkk (fun k hf e => e.elim (fun e => h.n1 (e ▸ hf)) (fun e => (h.n2 k e.symm).1 hf)), blk := by rw [heap_setCell_same _ _ 4 _ _ _ hb3]; rfl, own := (hO.flat str_flat hk1 hne : Own Rd.str (fun _ => True) _ _ _ _ _).flat str_flat hk2 hne, bb := h.bb, gen := h.gen, en := h2, lim := h.lim, len := ?_, n1 := h.n1, n2 := fun k hk => ⟨fun hf => ?_, hne k hk⟩ }, hkk.wide (fun k _ e => .inr e), fun k hk => ?_⟩
  · have := h.len
    show (js.recs ++ [s]).length ≤ nx
    rw [List.length_append, List.length_singleton]; omega
  · rcases hlv k hk with h1 | h1
    · exact (h.n2 k h1.symm).1 hf
    · have := h.raw.inb k hf; omega
  · rcases hk with hk | hk | hk
    · exact .inl (.inl hk)
    · exact .inl (.inr (.inl hk))
    · rcases hlv k hk.symm with h1 | h1
      · exact .inl (.inr (.inr h1))
      · exact .inr h1
theorem JRaw.pushed {base : Nat} {w w2 : World} {F : Fp} {st : St} {J : JF} {js : JSt} (h : JRaw base w F st J js) (hK : Kept (fun k => some k = J.lv.ownBlock) w w2) :
    w2.cell? ⟨J.b, 3, none⟩ = some J.lv ∧ w2.frozen? ⟨J.b, 3, none⟩ = false ∧ w2.cell? ⟨J.b, 4, none⟩ = some (.int .i64 js.en) ∧ w2.frozen? ⟨J.b, 4, none⟩ = false ∧ J.b < w2.heap.size := by
  have hJn : ¬ some J.b = J.lv.ownBlock := fun e => (h.n2 J.b e.symm).2 rfl
  obtain ⟨c0, c1, c2, c3, c4, c5⟩ := h.cells
  exact ⟨(hK.cell (p := ⟨J.b, 3, none⟩) h.lt hJn).trans c3, (hK.frozen (p := ⟨J.b, 3, none⟩) h.lt hJn).trans (h.free 3), (hK.cell (p := ⟨J.b, 4, none⟩) h.lt hJn).trans c4, (hK.frozen (p := ⟨J.b, 4, none⟩) h.lt hJn).trans (h.free 4), Nat.lt_of_lt_of_le h.lt hK.size⟩
theorem left_room {js : JSt} {s : ByteArray} (h : (s.size : Int) ≤ leftI js) (he : js.en < js.lim) : js.en + needN s.size < js.lim := by
  unfold leftI at h; unfold needN
  omega
/-- The world in which the five stand in a row. -/
def fiveW (W : World) (F : Fp) (bj bs bn : Nat) : World := W.alloc (.cells #[.func (.func 35) #[] #[.pointer (some ⟨bj, 0, none⟩), .pointer (some ⟨bs, 0, none⟩)], .func (.func 37) #[] #[.pointer (some ⟨bj, 0, none⟩), .pointer (some ⟨bn, 0, none⟩)], .func (.func 38) #[.pointer (some ⟨F.b, 0, none⟩)] #[], .func (.func 39) #[] #[.pointer (some ⟨bj, 0, none⟩), .pointer (some ⟨bs, 0, none⟩)], .func (.func 38) #[.pointer (some ⟨F.b, 0, none⟩)] #[]] 72)
theorem five_below (W : World) (F : Fp) (bj bs bn : Nat) : Below W.heap.size W (fiveW W F bj bs bn) := (Below.refl _ _).alloc (Nat.le_refl _) _
theorem five_size (W : World) (F : Fp) (bj bs bn : Nat) : (fiveW W F bj bs bn).heap.size = W.heap.size + 1 := by unfold fiveW; simp
theorem five_cell (W : World) (F : Fp) (bj bs bn : Nat) (k : Nat) (c : Fv) (hc : (appFs F bj bs bn)[k]? = some c) : (fiveW W F bj bs bn).cell? ⟨W.heap.size, k, none⟩ = some (fvV c) := by
  show (W.alloc _).cell? _ = _
  rw [World.cell?_alloc_new]
  have hk : k < 5 := (List.getElem?_eq_some_iff.1 hc).1
  match k, hk, hc with
  | 0, _, hc => cases hc; rfl
  | 1, _, hc => cases hc; rfl
  | 2, _, hc => cases hc; rfl
  | 3, _, hc => cases hc; rfl
  | 4, _, hc => cases hc; rfl
theorem app_steps2 {base : Nat} {W : World} {F : Fp} {st : St} {J : JF} {js : JSt} {bj bs bn : Nat} {s : ByteArray} (h : JRaw base W F st J js) (e0 : W.cell? ⟨bj, 0, none⟩ = some (.pointer (some ⟨J.b, 0, none⟩))) (e1 : W.cell? ⟨bs, 0, none⟩ = some (.string s)) (e2 : W.cell? ⟨bn, 0, none⟩ = some (.int .i64 ((js.en + needN s.size : Nat) : Int)))
    (l0 : bj < W.heap.size) (l1 : bs < W.heap.size) (l2 : bn < W.heap.size) (n0 : ¬ foot F bj) (n1 : ¬ foot F bs) (n2 : ¬ foot F bn) (hs : s.size ≤ 1048576) (hlo : st.lo.length ≤ 1000000) :
    Calls Tryd.prog 34 #[.slice (some ⟨W.heap.size, 0, none⟩) 5 5] (fiveW W F bj bs bn) (fun e W' => e = .returned (.int .i64 (runOps st (appOps js s)).2) ∧ PlS base F (runOps st (appOps js s)).1 (fiveW W F bj bs bn) W') := by
  have hb := five_below W F bj bs bn
  have hz := five_size W F bj bs bn
  refine app_steps (h.below hb) ((hb.cell (p := ⟨bj, 0, none⟩) l0).trans e0) ((hb.cell (p := ⟨bs, 0, none⟩) l1).trans e1) ((hb.cell (p := ⟨bn, 0, none⟩) l2).trans e2) (g := W.heap.size) (fun k hk => ?_) (five_cell W F bj bs bn) hs hlo
  rw [hz]
  rcases hk with rfl | rfl | rfl | rfl
  · exact ⟨by omega, n0⟩
  · exact ⟨by omega, n1⟩
  · exact ⟨by omega, n2⟩
  · exact ⟨by omega, fun hf => Nat.lt_irrefl _ (h.raw.inb _ hf)⟩
end Go.Proofs.YtaljgcdjkmpljaaDoor
