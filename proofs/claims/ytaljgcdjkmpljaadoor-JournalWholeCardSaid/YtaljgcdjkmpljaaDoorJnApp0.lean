/- What an Append does, step by step. -/
import Derived.Test.YtaljgcdjkmpljaaDoorJnLay
import Derived.Test.YtaljgcdjkmpljaaDoorJnNext
import Derived.Deep.RegionHeld3
namespace Go.Proofs.YtaljgcdjkmpljaaDoor
open Go.RowKit Lift
set_option linter.unusedSimpArgs false
set_option linter.unusedVariables false

section
variable {base : Nat} {w : World} {F : Fp} {st : St} {J : JF} {js : JSt} {bj bs : Nat} {s : ByteArray}
set_option maxHeartbeats 1000000 in
set_option maxRecDepth 100000 in
theorem app1_any (h : JRaw base w F st J js) (e0 : w.cell? ⟨bj, 0, none⟩ = some (.pointer (some ⟨J.b, 0, none⟩))) (e1 : w.cell? ⟨bs, 0, none⟩ = some (.string s)) (hs : s.size ≤ 1048576) (hlo : st.lo.length ≤ 100000000) :
    Calls Tryd.prog 35 #[.pointer (some ⟨bj, 0, none⟩), .pointer (some ⟨bs, 0, none⟩)] w (fun e w' => e = .returned (.int .i64 (runOps st (layOps js.en s ((s.size + 63) / 64))).2) ∧ PlS base F (runOps st (layOps js.en s ((s.size + 63) / 64))).1 w w') := by
  have HL := Lib.hid (lay_any h s hs hlo)
  generalize runOps st (layOps js.en s ((s.size + 63) / 64)) = r at *
  clear h
  go_enter Tryd.func35, Tryd.ntmps35
  go_wp2_with fail
  refine HL.out.mono ?_
  rintro e w1 ⟨rfl, hP⟩
  go_wp2_with fail
  go_ret
  exact ⟨rfl, hP⟩
set_option maxHeartbeats 1000000 in
set_option maxRecDepth 100000 in
theorem app2_any {nx : Nat} (h : JRaw base w F st J js) (e0 : w.cell? ⟨bj, 0, none⟩ = some (.pointer (some ⟨J.b, 0, none⟩))) (e1 : w.cell? ⟨bs, 0, none⟩ = some (.int .i64 nx)) (hlo : st.lo.length ≤ 100000000) :
    Calls Tryd.prog 37 #[.pointer (some ⟨bj, 0, none⟩), .pointer (some ⟨bs, 0, none⟩)] w (fun e w' => e = .returned (.int .i64 (putE st nx ⟨#[]⟩)) ∧ PlS base F (putS st nx ⟨#[]⟩) w w') := by
  obtain ⟨W2, hW2⟩ : ∃ W2, ({ heap := w.heap, tape := w.tape, drawn := w.drawn + 1, os := w.os, output := w.output } : World) = W2 := ⟨_, rfl⟩
  have hbd : Below w.heap.size w W2 := hW2 ▸ (Below.refl _ w).drew
  have hbj : bj < w.heap.size := by
    rcases Nat.lt_or_ge bj w.heap.size with h' | h'
    · exact h'
    · simp [World.cell?, Array.getElem?_eq_none h'] at e0
  have hbs : bs < w.heap.size := by
    rcases Nat.lt_or_ge bs w.heap.size with h' | h'
    · exact h'
    · simp [World.cell?, Array.getElem?_eq_none h'] at e1
  have d0 := (hbd.cell (p := ⟨bj, 0, none⟩) hbj).trans e0
  have d1 := (hbd.cell (p := ⟨bs, 0, none⟩) hbs).trans e1
  have h2 := h.below hbd
  have c0 := h2.cells.1
  have HP := Lib.hid (put_any h2.raw nx ⟨#[]⟩ (by decide) (by omega))
  clear h h2 e0 e1 hbj hbs
  go_enter Tryd.func37, Tryd.ntmps37
  go_wp2_with fail
  refine wp_region_still_tail 5 (by kernel_rfl) (by kernel_rfl) ?_
  rw [hW2]
  clear hW2
  simp only [List.take_succ_cons, List.take_zero, List.drop_succ_cons, List.drop_zero]
  repeat still_step
  refine wpStill_nil ?_
  go_wp2_with fail
  refine HP.out.mono ?_
  intro e w1 hp
  obtain ⟨rfl, hs⟩ := hp.s
  go_wp2_with fail
  go_ret
  exact ⟨rfl, hs.back hbd⟩
set_option maxHeartbeats 1000000 in
set_option maxRecDepth 100000 in
theorem app3_any (h : JRaw base w F st J js) (e0 : w.cell? ⟨bj, 0, none⟩ = some (.pointer (some ⟨J.b, 0, none⟩))) (e1 : w.cell? ⟨bs, 0, none⟩ = some (.string s)) (hn0 : ¬ foot F bj) (hn1 : ¬ foot F bs) (hs : s.size ≤ 1048576) (hlo : st.lo.length ≤ 100000000) :
    Calls Tryd.prog 39 #[.pointer (some ⟨bj, 0, none⟩), .pointer (some ⟨bs, 0, none⟩)] w (fun e w' => e = .returned (.int .i64 (putE st js.en (headB js.recs.length js.gen s))) ∧ PlS base F (putS st js.en (headB js.recs.length js.gen s)) w w') := by
  have hbj : bj < w.heap.size := by
    rcases Nat.lt_or_ge bj w.heap.size with h' | h'
    · exact h'
    · simp [World.cell?, Array.getElem?_eq_none h'] at e0
  have hbs : bs < w.heap.size := by
    rcases Nat.lt_or_ge bs w.heap.size with h' | h'
    · exact h'
    · simp [World.cell?, Array.getElem?_eq_none h'] at e1
  obtain ⟨c0, _, _, _, c4, _⟩ := h.cells
  have hJ := h.lt
  have hJn := h.n1
  have HK := Lib.hid (fun wx (hb : Below w.heap.size w wx) => show wx.cell? ⟨bj, 0, none⟩ = some (.pointer (some ⟨J.b, 0, none⟩)) ∧ wx.cell? ⟨bs, 0, none⟩ = some (.string s) ∧ wx.cell? ⟨J.b, 0, none⟩ = some (.pointer (some ⟨F.b, 0, none⟩)) ∧ wx.cell? ⟨J.b, 4, none⟩ = some (.int .i64 js.en) from
    ⟨(hb.cell (p := ⟨bj, 0, none⟩) hbj).trans e0, (hb.cell (p := ⟨bs, 0, none⟩) hbs).trans e1, (hb.cell (p := ⟨J.b, 0, none⟩) hJ).trans c0, (hb.cell (p := ⟨J.b, 4, none⟩) hJ).trans c4⟩)
  have HQ := Lib.hid (fun wx st' (hb : PlS base F st' w wx) => show wx.cell? ⟨bj, 0, none⟩ = some (.pointer (some ⟨J.b, 0, none⟩)) ∧ wx.cell? ⟨bs, 0, none⟩ = some (.string s) ∧ wx.cell? ⟨J.b, 0, none⟩ = some (.pointer (some ⟨F.b, 0, none⟩)) ∧ wx.cell? ⟨J.b, 4, none⟩ = some (.int .i64 js.en) from
    ⟨hb.cell e0 hbj hn0, hb.cell e1 hbs hn1, hb.cell c0 hJ hJn, hb.cell c4 hJ hJn⟩)
  have hhs : (headB js.recs.length js.gen s).size ≤ maxTx := by have : (headB js.recs.length js.gen s).size = 64 := headL_len _ _ _; rw [this]; decide
  have HH := Lib.hid (fun wx (hb : Below w.heap.size w wx) => head_any (h.below hb) s hs)
  have HP := Lib.hid (fun wx (hb : Below w.heap.size w wx) => put_any (h.below hb).raw js.en (headB js.recs.length js.gen s) hhs (by omega))
  have hb0 : Below w.heap.size w w.drew := (Below.refl _ w).drew
  clear h e0 e1 c0 c4
  go_enter Tryd.func39, Tryd.ntmps39
  go_wp2_with fail
  go_region_held3 (fun wx => wx.cell? ⟨bj, 0, none⟩ = some (.pointer (some ⟨J.b, 0, none⟩)) ∧ wx.cell? ⟨bs, 0, none⟩ = some (.string s) ∧ wx.cell? ⟨J.b, 0, none⟩ = some (.pointer (some ⟨F.b, 0, none⟩)) ∧ wx.cell? ⟨J.b, 4, none⟩ = some (.int .i64 js.en))
    (first | exact HK.out _ hb0 | exact HK.out _ (by assumption) | exact HQ.out _ _ (by assumption))
    (first
      | (go_at_call 40; refine (HH.out _ hb0).mono ?_; rintro e w2 ⟨rfl, hb2'⟩; have hb2 := chain hb0 hb2'; clear hb2')
      | (go_at_call 28; refine (HP.out _ hb2).mono ?_; intro e w3 hp; obtain ⟨rfl, hs3'⟩ := hp.s; have hs3 := hs3'.back hb2; clear hp hs3'))
  all_goals
    go_wp2_with fail
    go_ret
    exact ⟨rfl, hs3⟩
end
end Go.Proofs.YtaljgcdjkmpljaaDoor
