/- What an Append does, step by step. -/
import Derived.Test.YtdebfnlnpfienaaGreatDoorJnLay
import Derived.Test.YtdebfnlnpfienaaGreatDoorJnNext
import Derived.Deep.RegionHeld3
namespace Go.Proofs.YtdebfnlnpfienaaGreatDoor
open Go.RowKit Lift
set_option linter.unusedSimpArgs false
set_option linter.unusedVariables false

section
variable {base : Nat} {w : World} {F : Fp} {st : St} {J : JF} {js : JSt} {bj bs : Nat} {s : ByteArray}
set_option maxHeartbeats 1000000 in
set_option maxRecDepth 100000 in
theorem app1_any (h : JRaw base w F st J js) (e0 : w.cell? ⟨bj, 0, none⟩ = some (.pointer (some ⟨J.b, 0, none⟩))) (e1 : w.cell? ⟨bs, 0, none⟩ = some (.string s)) (hs : s.size ≤ 1048576) (hlo : st.lo.length ≤ 100000000) :
    Calls Tryz.prog 58 #[.pointer (some ⟨bj, 0, none⟩), .pointer (some ⟨bs, 0, none⟩)] w (fun e w' => e = .returned (.int .i64 (runOps st (layOps js.en s ((s.size + 63) / 64))).2) ∧ PlS base F (runOps st (layOps js.en s ((s.size + 63) / 64))).1 w w') := by
  have HL := Lib.hid (lay_any h s hs hlo)
  generalize runOps st (layOps js.en s ((s.size + 63) / 64)) = r at *
  clear h
  go_enter Tryz.func58, Tryz.ntmps58
  go_wp2_with fail
  refine HL.out.mono ?_
  rintro e w1 ⟨rfl, hP⟩
  go_wp2_with fail
  go_ret
  exact ⟨rfl, hP⟩
set_option maxHeartbeats 1000000 in
set_option maxRecDepth 100000 in
theorem app2_any {nx : Nat} (h : JRaw base w F st J js) (e0 : w.cell? ⟨bj, 0, none⟩ = some (.pointer (some ⟨J.b, 0, none⟩))) (e1 : w.cell? ⟨bs, 0, none⟩ = some (.int .i64 nx)) (hlo : st.lo.length ≤ 100000000) :
    Calls Tryz.prog 60 #[.pointer (some ⟨bj, 0, none⟩), .pointer (some ⟨bs, 0, none⟩)] w (fun e w' => e = .returned (.int .i64 (putE st nx ⟨#[]⟩)) ∧ PlS base F (putS st nx ⟨#[]⟩) w w') := by
  obtain ⟨W2, hW2⟩ : ∃ W2, ({ heap := w.heap, tape := w.tape, drawn := w.drawn + 1, os := w.os, output := w.output } : World) = W2 := ⟨_, rfl⟩
  have hbd : Below w.heap.size w W2 := hW2 ▸ (Below.refl _ w).drew
  have hbj : bj < w.heap.size := by
    rcases Nat.lt_or_ge bj w.heap.size with h' | h'
    · exact h'
    · simp [World.cell?, Array.getElem?_eq_none h'] at e0
  have hbs : bs < w.heap.size := by
    rcases Nat.lt_or_ge bs w.heap.size with h' | h'
    · exact h'
    · simp [World.cell?, Array.getElem?_eq_none h'] at e1
  have d0 := (hbd.cell (p := ⟨bj, 0, none⟩) hbj).trans e0
  have d1 := (hbd.cell (p := ⟨bs, 0, none⟩) hbs).trans e1
  have h2 := h.below hbd
  have c0 := h2.cells.1
  have HP := Lib.hid (put_any h2.raw nx ⟨#[]⟩ (by decide) (by omega))
  clear h h2 e0 e1 hbj hbs
  go_enter Tryz.func60, Tryz.ntmps60
  go_wp2_with fail
  refine wp_region_still_tail 5 (by kernel_rfl) (by kernel_rfl) ?_
  rw [hW2]
  clear hW2
  simp only [List.take_succ_cons, List.take_zero, List.drop_succ_cons, List.drop_zero]
  repeat still_step
  refine wpStill_nil ?_
  go_wp2_with fail
  refine HP.out.mono ?_
  intro e w1 hp
  obtain ⟨rfl, hs⟩ := hp.s
  go_wp2_with fail
  go_ret
  exact ⟨rfl, hs.back hbd⟩
set_option maxHeartbeats 1000000 in
set_option maxRecDepth 100000 in
theorem app3_any (h : JRaw base w F st J js) (e0 : w.cell? ⟨bj, 0, none⟩ = some (.pointer (some ⟨J.b, 0, none⟩))) (e1 : w.cell? ⟨bs, 0, none⟩ = some (.string s)) (hn0 : ¬ foot F bj) (hn1 : ¬ foot F bs) (hs : s.size ≤ 1048576) (hlo : st.lo.length ≤ 100000000) :
    Calls Tryz.prog 61 #[.pointer (some ⟨bj, 0, none⟩), .pointer (some ⟨bs, 0, none⟩)] w (fun e w' => e = .returned (.int .i64 (putE st js.en (headB js.recs.length js.gen s))) ∧ PlS base F (putS st js.en (headB js.recs.length js.gen s)) w w') := by
  have hbj : bj < w.heap.size := by
    rcases Nat.lt_or_ge bj w.heap.size with h' | h'
    · exact h'
    · simp [World.cell?, Array.getElem?_eq_none h'] at e0
  have hbs : bs < w.heap.size := by
    rcases Nat.lt_or_ge bs w.heap.size with h' | h'
    · exact h'
    · simp [World.cell?, Array.getElem?_eq_none h'] at e1
  obtain ⟨c0, _, _, _, c4, _⟩ := h.cells
  have hJ := h.lt
  have hJn := h.n1
  have HK := Lib.hid (fun wx (hb : Below w.heap.size w wx) => show wx.cell? ⟨bj, 0, none⟩ = some (.pointer (some ⟨J.b, 0, none⟩)) ∧ wx.cell? ⟨bs, 0, none⟩ = some (.string s) ∧ wx.cell? ⟨J.b, 0, none⟩ = some (.pointer (some ⟨F.b, 0, none⟩)) ∧ wx.cell? ⟨J.b, 4, none⟩ = some (.int .i64 js.en) from
    ⟨(hb.cell (p := ⟨bj, 0, none⟩) hbj).trans e0, (hb.cell (p := ⟨bs, 0, none⟩) hbs).trans e1, (hb.cell (p := ⟨J.b, 0, none⟩) hJ).trans c0, (hb.cell (p := ⟨J.b, 4, none⟩) hJ).trans c4⟩)
  have HQ := Lib.hid (fun wx st' (hb : PlS base F st' w wx) => show wx.cell? ⟨bj, 0, none⟩ = some (.pointer (some ⟨J.b, 0, none⟩)) ∧ wx.cell? ⟨bs, 0, none⟩ = some (.string s) ∧ wx.cell? ⟨J.b, 0, none⟩ = some (.pointer (some ⟨F.b, 0, none⟩)) ∧ wx.cell? ⟨J.b, 4, none⟩ = some (.int .i64 js.en) from
    ⟨hb.cell e0 hbj hn0, hb.cell e1 hbs hn1, hb.cell c0 hJ hJn, hb.cell c4 hJ hJn⟩)
  have hhs : (headB js.recs.length js.gen s).size ≤ maxTx := by have : (headB js.recs.length js.gen s).size = 64 := headL_len _ _ _; rw [this]; decide
  have HH := Lib.hid (fun wx (hb : Below w.heap.size w wx) => head_any (h.below hb) s hs)
  have HP := Lib.hid (fun wx (hb : Below w.heap.size w wx) => put_any (h.below hb).raw js.en (headB js.recs.length js.gen s) hhs (by omega))
  have hb0 : Below w.heap.size w w.drew := (Below.refl _ w).drew
  clear h e0 e1 c0 c4
  go_enter Tryz.func61, Tryz.ntmps61
  go_wp2_with fail
  go_region_held3 (fun wx => wx.cell? ⟨bj, 0, none⟩ = some (.pointer (some ⟨J.b, 0, none⟩)) ∧ wx.cell? ⟨bs, 0, none⟩ = some (.string s) ∧ wx.cell? ⟨J.b, 0, none⟩ = some (.pointer (some ⟨F.b, 0, none⟩)) ∧ wx.cell? ⟨J.b, 4, none⟩ = some (.int .i64 js.en))
    (first | exact HK.out _ hb0 | exact HK.out _ (by assumption) | exact HQ.out _ _ (by assumption))
    (first
      | (go_at_call 62; refine (HH.out _ hb0).mono ?_; rintro e w2 ⟨rfl, hb2'⟩; have hb2 := chain hb0 hb2'; clear hb2')
      | (go_at_call 42; refine (HP.out _ hb2).mono ?_; intro e w3 hp; obtain ⟨rfl, hs3'⟩ := hp.s; have hs3 := hs3'.back hb2; clear hp hs3'))
  all_goals
    go_wp2_with fail
    go_ret
    exact ⟨rfl, hs3⟩
end
end Go.Proofs.YtdebfnlnpfienaaGreatDoor

/- The five steps of an Append. -/
namespace Go.Proofs.YtdebfnlnpfienaaGreatDoor
open Go.RowKit Lift
set_option linter.unusedSimpArgs false
set_option linter.unusedVariables false

def appFs (F : Fp) (bj bs bn : Nat) : List Fv :=
  [(58, [], [.pointer (some ⟨bj, 0, none⟩), .pointer (some ⟨bs, 0, none⟩)]), (60, [], [.pointer (some ⟨bj, 0, none⟩), .pointer (some ⟨bn, 0, none⟩)]),
   (43, [.pointer (some ⟨F.b, 0, none⟩)], []), (61, [], [.pointer (some ⟨bj, 0, none⟩), .pointer (some ⟨bs, 0, none⟩)]), (43, [.pointer (some ⟨F.b, 0, none⟩)], [])]
theorem app_ops (js : JSt) (s : ByteArray) : ([layOps js.en s ((s.size + 63) / 64), [some (js.en + needN s.size, ⟨#[]⟩)], [none], [some (js.en, headB js.recs.length js.gen s)], [none]] : List (List Step)).flatten = appOps js s := by
  simp [appOps]
set_option maxHeartbeats 4000000 in
set_option maxRecDepth 100000 in
theorem app_steps {base : Nat} {W : World} {F : Fp} {st : St} {J : JF} {js : JSt} {bj bs bn g : Nat} {s : ByteArray} (h : JRaw base W F st J js) (e0 : W.cell? ⟨bj, 0, none⟩ = some (.pointer (some ⟨J.b, 0, none⟩))) (e1 : W.cell? ⟨bs, 0, none⟩ = some (.string s)) (e2 : W.cell? ⟨bn, 0, none⟩ = some (.int .i64 ((js.en + needN s.size : Nat) : Int)))
    (hn : ∀ k, k = bj ∨ k = bs ∨ k = bn ∨ k = g → k < W.heap.size ∧ ¬ foot F k) (hg : ∀ (k : Nat) c, (appFs F bj bs bn)[k]? = some c → W.cell? ⟨g, k, none⟩ = some (fvV c)) (hs : s.size ≤ 1048576) (hlo : st.lo.length ≤ 1000000) :
    Calls Tryz.prog 57 #[.slice (some ⟨g, 0, none⟩) 5 5] W (fun e W' => e = .returned (.int .i64 (runOps st (appOps js s)).2) ∧ PlS base F (runOps st (appOps js s)).1 W W') := by
  rw [← app_ops]
  have hll : (layOps js.en s ((s.size + 63) / 64)).length ≤ 20000 := by simp [layOps]; omega
  refine steps_run h.raw (some ⟨g, 0, none⟩) 5 (appFs F bj bs bn) _ rfl (by simp [appFs]) (by simp; omega)
    (by intro f hf; simp [appFs] at hf; rcases hf with rfl | rfl | rfl | rfl | rfl <;> (intro args w; kernel_rfl))
    (.inr ⟨g, 0, rfl, (hn g (by simp)).2, (hn g (by simp)).1, fun k c hk => ⟨[fvV c], rfl, fun i v hi => by
      match i, hi with
      | 0, hi => cases hi; rw [show (0 + k * rFv.n + 0) = k by simp [rFv]]; exact hg k c hk
      | i + 1, hi => simp at hi⟩⟩) ?_
  intro k f os hf hos W' st' hP hnl hlo'
  have e0' := hP.cell e0 (hn bj (by simp)).1 (hn bj (by simp)).2
  have e1' := hP.cell e1 (hn bs (by simp)).1 (hn bs (by simp)).2
  have e2' := hP.cell e2 (hn bn (by simp)).1 (hn bn (by simp)).2
  obtain ⟨F', hR', hb', hft, hk⟩ := hP
  have hJ := h.plate hR' hb' hft hk hnl
  have hlo2 : st'.lo.length ≤ 100000000 := by
    simp at hlo'; omega
  match k, hf, hos with
  | 0, hf, hos =>
    cases hf; cases hos
    refine (app1_any hJ e0' e1' hs hlo2).mono ?_
    rintro e w1 ⟨rfl, hp⟩
    exact ⟨rfl, PlS.on hb' hft hk hp⟩
  | 1, hf, hos =>
    cases hf; cases hos
    rw [runOps_one]
    refine (app2_any hJ e0' e2' hlo2).mono ?_
    rintro e w1 ⟨rfl, hp⟩
    exact ⟨rfl, PlS.on hb' hft hk hp⟩
  | 2, hf, hos =>
    cases hf; cases hos
    rw [runOps_one, ← hb']
    refine (sync_any hR' (by omega)).mono ?_
    intro e w1 hp
    obtain ⟨rfl, hq⟩ := hp.s
    exact ⟨rfl, PlS.on hb' hft hk hq⟩
  | 3, hf, hos =>
    cases hf; cases hos
    rw [runOps_one]
    refine (app3_any hJ e0' e1' (fun hx => ?_) (fun hx => ?_) hs hlo2).mono ?_
    · rcases hft _ hx with h1 | h1
      · exact (hn bj (by simp)).2 h1
      · have := (hn bj (by simp)).1; omega
    · rcases hft _ hx with h1 | h1
      · exact (hn bs (by simp)).2 h1
      · have := (hn bs (by simp)).1; omega
    · rintro e w1 ⟨rfl, hp⟩
      exact ⟨rfl, PlS.on hb' hft hk hp⟩
  | 4, hf, hos =>
    cases hf; cases hos
    rw [runOps_one, ← hb']
    refine (sync_any hR' (by omega)).mono ?_
    intro e w1 hp
    obtain ⟨rfl, hq⟩ := hp.s
    exact ⟨rfl, PlS.on hb' hft hk hq⟩
  | k + 5, hf, hos => simp [appFs] at hf
end Go.Proofs.YtdebfnlnpfienaaGreatDoor

/- What an Append leaves of a journal. -/
namespace Go.Proofs.YtdebfnlnpfienaaGreatDoor
open Go.RowKit Lift
set_option linter.unusedSimpArgs false
set_option linter.unusedVariables false

theorem JRaw.die {base : Nat} {w : World} {F : Fp} {st : St} {J : JF} {js : JSt} (h : JRaw base w F st J js) : JRaw base (w.setCell ⟨J.b, 5, none⟩ (.bool true)) F st J { js with dead := true } := by
  have hk := Kept.setCell (X := fun k => k = J.b) w (p := ⟨J.b, 5, none⟩) rfl (.bool true)
  exact { h with
    raw := h.raw.kept hk (fun k hf e => h.n1 (e ▸ hf))
    blk := by rw [heap_setCell_same w _ 5 _ _ _ h.blk]; rfl
    own := h.own.flat str_flat hk (fun k e => (h.n2 k e).2) }
theorem JRaw.grow {base : Nat} {w w2 : World} {F : Fp} {st : St} {J : JF} {js : JSt} {v2 : Value} {s : ByteArray} {nx : Nat} (h : JRaw base w F st J js) (hK : Kept (fun k => some k = J.lv.ownBlock) w w2) (hO : Own Rd.str (fun _ => True) w2 base 9 v2 (js.recs ++ [s]))
    (hw : v2.ownBlock = J.lv.ownBlock ∨ ∃ g, v2.ownBlock = some g ∧ w.heap.size ≤ g) (h1 : js.en < nx) (h2 : nx < js.lim) :
    JRaw base ((w2.setCell ⟨J.b, 3, none⟩ v2).setCell ⟨J.b, 4, none⟩ (.int .i64 nx)) F st ⟨J.b, v2⟩ { js with recs := js.recs ++ [s], en := nx } ∧ Kept (jfoot F J) w ((w2.setCell ⟨J.b, 3, none⟩ v2).setCell ⟨J.b, 4, none⟩ (.int .i64 nx)) ∧ ∀ k, jfoot F ⟨J.b, v2⟩ k → jfoot F J k ∨ w.heap.size ≤ k := by
  have hlv : ∀ k, v2.ownBlock = some k → some k = J.lv.ownBlock ∨ w.heap.size ≤ k := fun k hk => by
    rcases hw with e | ⟨g, e, hg⟩
    · exact .inl (by rw [← e, hk])
    · rw [e] at hk; cases hk; exact .inr hg
  have hJn : ¬ some J.b = J.lv.ownBlock := fun e => (h.n2 J.b e.symm).2 rfl
  have hb2 : w2.heap[J.b]? = some (.cells (jnCells F.b J js) 106 (0, 0)) := (hK.block J.b h.lt hJn).trans h.blk
  have hk1 := Kept.setCell (X := fun k => k = J.b) w2 (p := ⟨J.b, 3, none⟩) rfl v2
  have hb3 : (w2.setCell ⟨J.b, 3, none⟩ v2).heap[J.b]? = some (.cells (jnCells F.b ⟨J.b, v2⟩ js) 106 (0, 0)) := by rw [heap_setCell_same w2 _ 3 _ _ _ hb2]; rfl
  have hk2 := Kept.setCell (X := fun k => k = J.b) (w2.setCell ⟨J.b, 3, none⟩ v2) (p := ⟨J.b, 4, none⟩) rfl (.int .i64 nx)
  have hne : ∀ k, v2.ownBlock = some k → ¬ k = J.b := fun k hk e => by
    rcases hlv k hk with h1 | h1
    · exact hJn (e ▸ h1)
    · have := h.lt; omega
  have hkk : Kept (fun k => k = J.b ∨ some k = J.lv.ownBlock) w ((w2.setCell ⟨J.b, 3, none⟩ v2).setCell ⟨J.b, 4, none⟩ (.int .i64 nx)) :=
    ((hK.wide (fun k _ e => .inr e)).set (.inl rfl)).set (.inl rfl)
  refine ⟨{ raw := h.raw.kept hkk (fun k hf e => e.elim (fun e => h.n1 (e ▸ hf)) (fun e => (h.n2 k e.symm).1 hf)), blk := by rw [heap_setCell_same _ _ 4 _ _ _ hb3]; rfl, own := (hO.flat str_flat hk1 hne : Own Rd.str (fun _ => True) _ _ _ _ _).flat str_flat hk2 hne, bb := h.bb, gen := h.gen, en := h2, lim := h.lim, len := ?_, n1 := h.n1, n2 := fun k hk => ⟨fun hf => ?_, hne k hk⟩ }, hkk.wide (fun k _ e => .inr e), fun k hk => ?_⟩
  · have := h.len
    show (js.recs ++ [s]).length ≤ nx
    rw [List.length_append, List.length_singleton]; omega
  · rcases hlv k hk with h1 | h1
    · exact (h.n2 k h1.symm).1 hf
    · have := h.raw.inb k hf; omega
  · rcases hk with hk | hk | hk
    · exact .inl (.inl hk)
    · exact .inl (.inr (.inl hk))
    · rcases hlv k hk.symm with h1 | h1
      · exact .inl (.inr (.inr h1))
      · exact .inr h1
theorem JRaw.pushed {base : Nat} {w w2 : World} {F : Fp} {st : St} {J : JF} {js : JSt} (h : JRaw base w F st J js) (hK : Kept (fun k => some k = J.lv.ownBlock) w w2) :
    w2.cell? ⟨J.b, 3, none⟩ = some J.lv ∧ w2.frozen? ⟨J.b, 3, none⟩ = false ∧ w2.cell? ⟨J.b, 4, none⟩ = some (.int .i64 js.en) ∧ w2.frozen? ⟨J.b, 4, none⟩ = false ∧ J.b < w2.heap.size := by
  have hJn : ¬ some J.b = J.lv.ownBlock := fun e => (h.n2 J.b e.symm).2 rfl
  obtain ⟨c0, c1, c2, c3, c4, c5⟩ := h.cells
  exact ⟨(hK.cell (p := ⟨J.b, 3, none⟩) h.lt hJn).trans c3, (hK.frozen (p := ⟨J.b, 3, none⟩) h.lt hJn).trans (h.free 3), (hK.cell (p := ⟨J.b, 4, none⟩) h.lt hJn).trans c4, (hK.frozen (p := ⟨J.b, 4, none⟩) h.lt hJn).trans (h.free 4), Nat.lt_of_lt_of_le h.lt hK.size⟩
theorem left_room {js : JSt} {s : ByteArray} (h : (s.size : Int) ≤ leftI js) (he : js.en < js.lim) : js.en + needN s.size < js.lim := by
  unfold leftI at h; unfold needN
  omega
/-- The world in which the five stand in a row. -/
def fiveW (W : World) (F : Fp) (bj bs bn : Nat) : World := W.alloc (.cells #[.func (.func 58) #[] #[.pointer (some ⟨bj, 0, none⟩), .pointer (some ⟨bs, 0, none⟩)], .func (.func 60) #[] #[.pointer (some ⟨bj, 0, none⟩), .pointer (some ⟨bn, 0, none⟩)], .func (.func 43) #[.pointer (some ⟨F.b, 0, none⟩)] #[], .func (.func 61) #[] #[.pointer (some ⟨bj, 0, none⟩), .pointer (some ⟨bs, 0, none⟩)], .func (.func 43) #[.pointer (some ⟨F.b, 0, none⟩)] #[]] 41)
theorem five_below (W : World) (F : Fp) (bj bs bn : Nat) : Below W.heap.size W (fiveW W F bj bs bn) := (Below.refl _ _).alloc (Nat.le_refl _) _
theorem five_size (W : World) (F : Fp) (bj bs bn : Nat) : (fiveW W F bj bs bn).heap.size = W.heap.size + 1 := by unfold fiveW; simp
theorem five_cell (W : World) (F : Fp) (bj bs bn : Nat) (k : Nat) (c : Fv) (hc : (appFs F bj bs bn)[k]? = some c) : (fiveW W F bj bs bn).cell? ⟨W.heap.size, k, none⟩ = some (fvV c) := by
  show (W.alloc _).cell? _ = _
  rw [World.cell?_alloc_new]
  have hk : k < 5 := (List.getElem?_eq_some_iff.1 hc).1
  match k, hk, hc with
  | 0, _, hc => cases hc; rfl
  | 1, _, hc => cases hc; rfl
  | 2, _, hc => cases hc; rfl
  | 3, _, hc => cases hc; rfl
  | 4, _, hc => cases hc; rfl
theorem app_steps2 {base : Nat} {W : World} {F : Fp} {st : St} {J : JF} {js : JSt} {bj bs bn : Nat} {s : ByteArray} (h : JRaw base W F st J js) (e0 : W.cell? ⟨bj, 0, none⟩ = some (.pointer (some ⟨J.b, 0, none⟩))) (e1 : W.cell? ⟨bs, 0, none⟩ = some (.string s)) (e2 : W.cell? ⟨bn, 0, none⟩ = some (.int .i64 ((js.en + needN s.size : Nat) : Int)))
    (l0 : bj < W.heap.size) (l1 : bs < W.heap.size) (l2 : bn < W.heap.size) (n0 : ¬ foot F bj) (n1 : ¬ foot F bs) (n2 : ¬ foot F bn) (hs : s.size ≤ 1048576) (hlo : st.lo.length ≤ 1000000) :
    Calls Tryz.prog 57 #[.slice (some ⟨W.heap.size, 0, none⟩) 5 5] (fiveW W F bj bs bn) (fun e W' => e = .returned (.int .i64 (runOps st (appOps js s)).2) ∧ PlS base F (runOps st (appOps js s)).1 (fiveW W F bj bs bn) W') := by
  have hb := five_below W F bj bs bn
  have hz := five_size W F bj bs bn
  refine app_steps (h.below hb) ((hb.cell (p := ⟨bj, 0, none⟩) l0).trans e0) ((hb.cell (p := ⟨bs, 0, none⟩) l1).trans e1) ((hb.cell (p := ⟨bn, 0, none⟩) l2).trans e2) (g := W.heap.size) (fun k hk => ?_) (five_cell W F bj bs bn) hs hlo
  rw [hz]
  rcases hk with rfl | rfl | rfl | rfl
  · exact ⟨by omega, n0⟩
  · exact ⟨by omega, n1⟩
  · exact ⟨by omega, n2⟩
  · exact ⟨by omega, fun hf => Nat.lt_irrefl _ (h.raw.inb _ hf)⟩
end Go.Proofs.YtdebfnlnpfienaaGreatDoor

/- Append: the program's. -/
namespace Go.Proofs.YtdebfnlnpfienaaGreatDoor
open Go.RowKit Lift
set_option linter.unusedSimpArgs false
set_option linter.unusedVariables false

theorem JPost.same {base : Nat} {F : Fp} {J : JF} {st : St} {js : JSt} {w w' : World} (h : JRaw base w F st J js) (hb : Below w.heap.size w w') (v : Value) : JPost base F J st js v w (.returned v) w' :=
  ⟨F, J, rfl, h.below hb, rfl, rfl, fun k h => .inl h, Kept.of_below hb _⟩
theorem leftI_le (js : JSt) : -1 ≤ leftI js ∧ leftI js ≤ 1048576 := by unfold leftI; omega
set_option maxHeartbeats 8000000 in
set_option maxRecDepth 100000 in
theorem append_any {base : Nat} {w : World} {F : Fp} {st : St} {J : JF} {js : JSt} (h : JRaw base w F st J js) (s : ByteArray) (hs : s.size ≤ maxTx) (hlo : st.lo.length ≤ 1000000) :
    Calls Tryz.prog 35 #[.pointer (some ⟨J.b, 0, none⟩), .string s] w (JPost base F J (appS st js s) (appJ st js s) (.int .i64 (appE st js s)) w) := by
  obtain ⟨c0, c1, c2, c3, c4, c5⟩ := h.cells
  obtain ⟨b1, b2, b3⟩ := h.bd
  obtain ⟨hl1, hl2⟩ := leftI_le js
  have hJlt := h.lt
  obtain ⟨W0, hW0⟩ : ∃ W0, (w.alloc (.cells #[.pointer (some ⟨J.b, 0, none⟩)] 60)).alloc (.cells #[.string s] 9) = W0 := ⟨_, rfl⟩
  have hB0 : Below w.heap.size w W0 := by rw [← hW0]; exact ((Below.refl _ w).alloc (Nat.le_refl _) _).alloc (by simp) _
  have hsz0 : W0.heap.size = w.heap.size + 2 := by rw [← hW0]; simp
  have e0 : W0.cell? ⟨w.heap.size, 0, none⟩ = some (.pointer (some ⟨J.b, 0, none⟩)) := by rw [← hW0]; simp [go_sem]
  have e1 : W0.cell? ⟨w.heap.size + 1, 0, none⟩ = some (.string s) := by rw [← hW0]; simp [go_sem]
  have HJ0 := Lib.hid (h.below hB0)
  have H := Lib.hid h
  unfold maxTx at hs
  clear h c0 c1 c2 c3 c4 c5
  obtain ⟨c0, c1, c2, c3, c4, c5⟩ := HJ0.out.cells
  cases hd : js.dead with
  | true =>
    rw [hd] at c5
    have eE : appE st js s = 12 := by simp [appE, hd]
    have eS : appS st js s = st := by simp [appS, hd]
    have eJ : appJ st js s = js := by simp [appJ, hd]
    rw [eE, eS, eJ]
    clear eE eS eJ hd
    go_enter Tryz.func35, Tryz.ntmps35
    go_wp2_with fail
    go_ret
    exact JPost.same H.out hB0 _
  | false =>
    rw [hd] at c5
    have HX := fun x : Bel W0 => x.cell e0 (by omega)
    have HY := fun x : Bel W0 => x.cell e1 (by omega)
    have HL := Lib.hid (fun x : Bel W0 => left_any (HJ0.out.below x.below))
    have HD := Lib.hid hd
    clear hd
    by_cases hfull : leftI js < (s.size : Int)
    · have hdl : decide (leftI js < (s.size : Int)) = true := by simpa using hfull
      have eE : appE st js s = 4 := by simp [appE, HD.out, hfull]
      have eS : appS st js s = st := by simp [appS, HD.out, hfull]
      have eJ : appJ st js s = js := by simp [appJ, HD.out, hfull]
      rw [eE, eS, eJ]
      clear eE eS eJ
      go_enter Tryz.func35, Tryz.ntmps35
      go_wp2_with fail
      (refine wp_region_bel (by kernel_rfl) (by kernel_rfl) ?_; (repeat (any_goals (go_big_quiet_step ((go_at_call 30; exact Bel.call (HL.out _)))))); all_goals (refine wpQuiet_nil ?_; intro wq hw'; obtain ⟨⟨wq2, hwq⟩, hw''⟩ := hw'; have hw3 : wq = wq2 := hw''; clear hw''; subst hw3))
      go_wp2_with fail
      go_ret
      exact JPost.same H.out (hB0.trans (hwq.mono hB0.size)) _
    · have hdl : decide (leftI js < (s.size : Int)) = false := by simpa using hfull
      have hsl : s.size ≤ 1048576 := by omega
      go_enter Tryz.func35, Tryz.ntmps35
      go_wp2_with fail
      (refine wp_region_bel (by kernel_rfl) (by kernel_rfl) ?_; (repeat (any_goals (go_big_quiet_step ((go_at_call 30; exact Bel.call (HL.out _)))))); all_goals (refine wpQuiet_nil ?_; intro wq hw'; obtain ⟨⟨wq2, hwq⟩, hw''⟩ := hw'; have hw3 : wq = wq2 := hw''; clear hw''; subst hw3))
      have hB1 : Below w.heap.size w wq := hB0.trans (hwq.mono hB0.size)
      have hz1 := hwq.size
      have HJ1 := Lib.hid (HJ0.out.below hwq)
      have hJ1 : J.b < wq.heap.size := HJ1.out.lt
      have d0 := (hwq.cell (p := ⟨w.heap.size, 0, none⟩) (by simp; omega)).trans e0
      have d1 := (hwq.cell (p := ⟨w.heap.size + 1, 0, none⟩) (by simp; omega)).trans e1
      have hsz1 : w.heap.size + 1 < wq.heap.size := by omega
      have hsz1' : w.heap.size < wq.heap.size := by omega
      clear e0 e1 c0 c1 c2 c3 c4 c5 HX HY HL HJ0 hwq hB0 hz1 hdl
      obtain ⟨c0, c1, c2, c3, c4, c5⟩ := HJ1.out.cells
      clear hW0 hsz0
      have HN := Lib.hid (show ∀ w1, Calls Tryz.prog 33 #[.int .i64 s.size] w1 (fun e w' => e = .returned (.int .i64 (needN s.size)) ∧ w' = w1) from fun w1 => by
        rw [← needI_nat hsl]
        exact (need_any s.size (Wf.of (by omega) (by omega)) w1).mono fun _ _ ⟨a, b⟩ => ⟨a, b.symm⟩)
      have hnd : needN s.size ≤ 20000 := by unfold needN; omega
      have HK := Lib.hid (fun wx (h : Below wq.heap.size wq wx) => show Below wq.heap.size wq wx ∧ wx.cell? ⟨w.heap.size, 0, none⟩ = some (.pointer (some ⟨J.b, 0, none⟩)) ∧ wx.cell? ⟨w.heap.size + 1, 0, none⟩ = some (.string s) ∧ wx.cell? ⟨J.b, 4, none⟩ = some (.int .i64 js.en) from
        ⟨h, (h.cell (p := ⟨w.heap.size, 0, none⟩) hsz1').trans d0, (h.cell (p := ⟨w.heap.size + 1, 0, none⟩) hsz1).trans d1, (h.cell (p := ⟨J.b, 4, none⟩) hJ1).trans c4⟩)
      have hbq := Below.refl wq.heap.size wq
      go_wp2_with fail
      go_region_held3 (fun wx => Below wq.heap.size wq wx ∧ wx.cell? ⟨w.heap.size, 0, none⟩ = some (.pointer (some ⟨J.b, 0, none⟩)) ∧ wx.cell? ⟨w.heap.size + 1, 0, none⟩ = some (.string s) ∧ wx.cell? ⟨J.b, 4, none⟩ = some (.int .i64 js.en))
        (exact HK.out _ (by (repeat (first | exact hbq | with_reducible exact (‹Below wq.heap.size wq _ ∧ _›).1 | with_reducible assumption | with_reducible refine Below.drew ?_ | with_reducible refine Below.alloc ?_ (by first | exact Nat.le_refl _ | exact (‹Below wq.heap.size wq _ ∧ _›).1.size) _ | with_reducible refine Below.setCell ?_ (by simp) _))))
        (first | ((with_reducible refine (HN.out _).mono ?_); rintro e w5 ⟨rfl, rfl⟩))
      all_goals
        have hu1 : IntKind.i64.wrap ((js.en : Int) + (needN s.size : Int)) = ((js.en + needN s.size : Nat) : Int) := by rw [IntKind.wrap_i64]; omega
        rw [hu1]
        clear hu1 HN
        obtain ⟨W1, hW1⟩ : ∃ W1, (wq.alloc (.cells #[.int .i64 ((js.en + needN s.size : Nat) : Int)] 3)).drew = W1 := ⟨_, rfl⟩
        have hBq : Below wq.heap.size wq W1 := by rw [← hW1]; exact ((Below.refl _ _).alloc (Nat.le_refl _) _).drew
        have hszq : W1.heap.size = wq.heap.size + 1 := by rw [← hW1]; simp
        have g2 : W1.cell? ⟨wq.heap.size, 0, none⟩ = some (.int .i64 ((js.en + needN s.size : Nat) : Int)) := by rw [← hW1]; simp [go_sem]
        have HJ2 := Lib.hid (HJ1.out.below hBq)
        have g0 := (hBq.cell (p := ⟨w.heap.size, 0, none⟩) hsz1').trans d0
        have g1 := (hBq.cell (p := ⟨w.heap.size + 1, 0, none⟩) hsz1).trans d1
        have hBw := hB1.trans (hBq.mono (Nat.le_of_lt hsz1'))
        rw [hW1]
        clear c0 c1 c2 c3 c4 c5 d0 d1 HK hbq hW1 HJ1 hB1 hBq
        obtain ⟨c0, c1, c2, c3, c4, c5⟩ := HJ2.out.cells
        have hJ2 := HJ2.out.lt
        have hq1 : wq.heap.size < W1.heap.size := by omega
        have hq2 : w.heap.size + 1 < W1.heap.size := by omega
        have hq3 : w.heap.size < W1.heap.size := by omega
        clear hszq
        have hfo : ∀ k, w.heap.size ≤ k → ¬ foot F k := fun k hk hf => by have := H.out.raw.inb k hf; omega
        obtain ⟨Wd, hWd⟩ : ∃ Wd, ({ heap := W1.heap, tape := W1.tape, drawn := W1.drawn + 1, os := W1.os, output := W1.output } : World) = Wd := ⟨_, rfl⟩
        have hbd : Below W1.heap.size W1 Wd := hWd ▸ (Below.refl _ W1).drew
        have hzd : Wd.heap.size = W1.heap.size := by rw [← hWd]
        have HJd := Lib.hid (HJ2.out.below hbd)
        have k0 := (hbd.cell (p := ⟨w.heap.size, 0, none⟩) hq3).trans g0
        have k1 := (hbd.cell (p := ⟨w.heap.size + 1, 0, none⟩) hq2).trans g1
        have k2 := (hbd.cell (p := ⟨wq.heap.size, 0, none⟩) hq1).trans g2
        have hq1' : wq.heap.size < Wd.heap.size := by omega
        have hq2' : w.heap.size + 1 < Wd.heap.size := by omega
        have hq3' : w.heap.size < Wd.heap.size := by omega
        have hBd := hBw.trans (hbd.mono (Nat.le_of_lt hq3))
        have HSt := Lib.hid (app_steps2 HJd.out k0 k1 k2 hq3' hq2' hq1' (hfo _ (Nat.le_refl _)) (hfo _ (Nat.le_succ _)) (hfo _ (Nat.le_of_lt hsz1')) hsl hlo)
        obtain ⟨⟨st5, er⟩, hr5⟩ : ∃ r, runOps st (appOps js s) = r := ⟨_, rfl⟩
        rw [hr5] at HSt
        have HR5 := Lib.hid hr5
        simp only at HSt
        clear hr5 c0 c1 c2 c3 c4 c5 g0 g1 g2 hq1 hq2 hq3 hbd hzd HJ2
        obtain ⟨c0, c1, c2, c3, c4, c5⟩ := HJd.out.cells
        go_wp2_with fail
        refine wp_region_still_tail 13 (by kernel_rfl) (by kernel_rfl) ?_
        rw [hWd]
        clear hWd hBw
        simp only [List.take_succ_cons, List.take_zero, List.drop_succ_cons, List.drop_zero]
        repeat still_step
        refine wpStill_nil ?_
        go_wp2_with fail
        have hB2 := five_below Wd F w.heap.size (w.heap.size + 1) wq.heap.size
        have hzf := five_size Wd F w.heap.size (w.heap.size + 1) wq.heap.size
        have p0 := (hB2.cell (p := ⟨w.heap.size, 0, none⟩) hq3').trans k0
        have p1 := (hB2.cell (p := ⟨w.heap.size + 1, 0, none⟩) hq2').trans k1
        have p2 := (hB2.cell (p := ⟨wq.heap.size, 0, none⟩) hq1').trans k2
        have HJf := Lib.hid (HJd.out.below hB2)
        have hBf := hBd.trans (hB2.mono (Nat.le_of_lt hq3'))
        rw [show Wd.alloc _ = fiveW Wd F w.heap.size (w.heap.size + 1) wq.heap.size from rfl]
        generalize fiveW Wd F w.heap.size (w.heap.size + 1) wq.heap.size = Wf at *
        have hz3 := hBf.size
        have hwf0 : w.heap.size < Wf.heap.size := by omega
        have hwf1 : w.heap.size + 1 < Wf.heap.size := by omega
        have hwf2 : wq.heap.size < Wf.heap.size := by omega
        refine HSt.out.mono ?_
        rintro e w3 ⟨rfl, hP3⟩
        have hnl := runOps_len (appOps js s) st
        rw [HR5.out] at hnl
        have q0 := hP3.cell p0 hwf0 (hfo _ (Nat.le_refl _))
        have q1 := hP3.cell p1 hwf1 (hfo _ (Nat.le_succ _))
        have q2 := hP3.cell p2 hwf2 (hfo _ (Nat.le_of_lt hsz1'))
        obtain ⟨F3, hR3, hb3, hf3, hk3⟩ := hP3
        have HJ3 := Lib.hid (HJf.out.plate hR3 hb3 hf3 hk3 hnl)
        have hJ3 := HJ3.out.lt
        have hKw := (Kept.of_below hBf (fun _ => False)).trans hk3 (Z := jfoot F J) (fun _ _ h => h.elim) (fun _ _ h => .inl h)
        have hFw : ∀ k, foot F3 k → foot F k ∨ w.heap.size ≤ k := fun k hk => (hf3 k hk).imp id (fun h => by omega)
        have hz4 := hKw.size
        have hk3' := hk3.size
        clear hk3 hf3 hR3 p0 p1 p2 k0 k1 k2 c0 c1 c2 c3 c4 c5 HSt HJf HJd hB2 hBd hzf hBf hq1' hq2' hq3' hnl
        obtain ⟨c0, c1, c2, c3, c4, c5⟩ := HJ3.out.cells
        by_cases h0 : er = 0
        · subst h0
          have eE : appE st js s = 0 := by simp [appE, HD.out, HR5.out]; omega
          have eS : appS st js s = st5 := by simp [appS, HD.out, HR5.out]; omega
          have eJ : appJ st js s = { js with recs := js.recs ++ [s], en := js.en + needN s.size } := by simp [appJ, HD.out, HR5.out]; omega
          have HE := Lib.hid eE; have HS' := Lib.hid eS; have HJ' := Lib.hid eJ
          clear eE eS eJ HR5
          have hroom := left_room hfull HJ3.out.en
          obtain ⟨i0, hi, hz0, hz1, hz2⟩ := str_info0
          have HI := Lib.hid hi; have HZ0 := Lib.hid hz0; have HZ1 := Lib.hid hz1; have HZ2 := Lib.hid hz2
          clear hi hz0 hz1 hz2
          have hbdr : Below w3.heap.size w3 w3.drew := (Below.refl _ _).drew
          have HJ4 := Lib.hid (HJ3.out.below hbdr)
          obtain ⟨ao, cap, elv⟩ := HJ3.out.form
          have HLV := Lib.hid elv
          have HO4 := Lib.hid (show Own Rd.str (fun _ => True) w3.drew base 9 (.slice ao js.recs.length cap) js.recs from elv ▸ HJ4.out.own)
          have hbase : base ≤ w3.drew.heap.size := HJ4.out.raw.base_le
          have hlvn : ∀ k, w.heap.size ≤ k → ¬ some k = J.lv.ownBlock := fun k hk e => by have := (H.out.own.lt k e.symm).2; omega
          have hlt0 : w.heap.size < w3.drew.heap.size := by show w.heap.size < w3.heap.size; omega
          have HPu := Lib.hid (fun w2 (hK : Kept (fun k => some k = (Value.slice ao js.recs.length cap).ownBlock) w3.drew w2) => HJ4.out.pushed (elv ▸ hK))
          have HBx := Lib.hid (fun w2 (hK : Kept (fun k => some k = (Value.slice ao js.recs.length cap).ownBlock) w3.drew w2) => show w2.cell? ⟨w.heap.size, 0, none⟩ = some (.pointer (some ⟨J.b, 0, none⟩)) ∧ w2.cell? ⟨wq.heap.size, 0, none⟩ = some (.int .i64 ((js.en + needN s.size : Nat) : Int)) from by
            rw [← elv] at hK
            have hw0 : w.heap.size < w3.heap.size := by omega
            have hw2 : wq.heap.size < w3.heap.size := by have := hk3'; omega
            exact ⟨(hK.cell (p := ⟨w.heap.size, 0, none⟩) hw0 (hlvn _ (Nat.le_refl _))).trans ((hbdr.cell (p := ⟨w.heap.size, 0, none⟩) hw0).trans q0), (hK.cell (p := ⟨wq.heap.size, 0, none⟩) hw2 (hlvn _ (Nat.le_of_lt hsz1'))).trans ((hbdr.cell (p := ⟨wq.heap.size, 0, none⟩) hw2).trans q2)⟩)
          rw [elv] at c3
          clear elv
          have hrl : js.recs.length + 1 ≤ 10000 := by omega
          have hw30 : w.heap.size < w3.heap.size := by omega
          have hw31 : w.heap.size + 1 < w3.heap.size := by omega
          have hw32 : wq.heap.size < w3.heap.size := by omega
          go_wp2_with fail
          go_region_law (refine step_push Rd.str rfl (.tmp 51) (.tmp 53) 91 rfl base 9 i0 _ 16 Tryz.underlying91 HI.out HZ0.out HZ1.out HZ2.out rfl (by decide) (fun _ => True) _ js.recs (by rfl) HO4.out [.string s] s _ (by rfl) (by simp) ⟨rfl, by unfold maxTx; omega⟩ (by simp [Value.oneCell']) (by unfold maxLen; omega) (by omega) hbase ?_; intro v2 w2 hO2 hK2 hw2; obtain ⟨ao2, cap2, rfl⟩ := hO2.form; obtain ⟨y3, yf3, y4, yf4, ylt⟩ := HPu.out _ hK2; obtain ⟨z0, z2⟩ := HBx.out _ hK2)
          all_goals
            have hG := HJ4.out.grow (v2 := .slice ao2 (js.recs ++ [s]).length cap2) (HLV.out ▸ hK2) hO2 (by
              rcases hw2 with e | ⟨g, e, hg⟩
              · exact .inl (by rw [HLV.out]; exact e)
              · exact .inr ⟨g, e, Nat.le_of_lt hg⟩) (nx := js.en + needN s.size) (by unfold needN; omega) hroom
            have HG := Lib.hid hG
            clear hG hO2 hw2 hK2
            go_wp2_with fail
            go_ret
            rw [HE.out, HS'.out, HJ'.out]
            obtain ⟨G1, G2, G3⟩ := HG.out
            simp only [List.length_append, List.length_singleton, Int.natCast_add] at G1 G2
            have hz5 : w.heap.size ≤ w3.drew.heap.size := by show w.heap.size ≤ w3.heap.size; omega
            exact ⟨F3, ⟨J.b, .slice ao2 (js.recs.length + 1) cap2⟩, rfl, G1, hb3, rfl,
              fun k hk => by
                rcases G3 k (by simpa only [List.length_append, List.length_singleton] using hk) with h | h
                · rcases h with h | h
                  · exact (hFw k h).imp .inl id
                  · exact .inl (.inr h)
                · exact .inr (Nat.le_trans hz5 h),
              (hKw.step hbdr).trans G2 (fun _ _ h => h) (fun k hk h => by
                rcases h with h | h
                · rcases hFw k h with h | h
                  · exact .inl h
                  · omega
                · exact .inr h)⟩
        · have hx2 : (er == 0) = false := by simpa using h0
          have f5 := HJ3.out.free 5
          have eE : appE st js s = er := by simp [appE, HD.out, HR5.out]; omega
          have eS : appS st js s = st5 := by simp [appS, HD.out, HR5.out]; omega
          have eJ : appJ st js s = { js with dead := true } := by simp [appJ, HD.out, HR5.out, h0]; omega
          have HE := Lib.hid eE; have HS' := Lib.hid eS; have HJ' := Lib.hid eJ
          clear eE eS eJ HR5
          go_wp2_with fail
          go_ret
          rw [HE.out, HS'.out, HJ'.out]
          exact ⟨F3, J, rfl, HJ3.out.die, hb3, rfl, fun k hk => hk.elim (fun h => (hFw k h).imp .inl id) (fun h => .inl (.inr h)), hKw.set (.inr (.inl rfl))⟩
end Go.Proofs.YtdebfnlnpfienaaGreatDoor
