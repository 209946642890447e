/- What is expected where nothing is pending, and in the law's own example. -/
import Derived.Test.YtefefpiealknlaaGreatDoorMd11
namespace Go.Proofs.YtefefpiealknlaaGreatDoor
open Go.RowKit Lift
set_option linter.unusedSimpArgs false
set_option linter.unusedVariables false

theorem texts_recs (l : List ByteArray) : textsR (recsOf l) = l := by
  unfold textsR
  rw [List.filter_eq_self.2 (fun c hc => by
    obtain ⟨i, hi⟩ := List.mem_iff_getElem?.1 hc
    obtain ⟨t, _, rfl⟩ := recsOf_inv hi
    rfl)]
  apply List.ext_getElem?
  intro i
  unfold recsOf
  rw [List.getElem?_map, List.getElem?_mapIdx]
  cases l[i]? <;> rfl
theorem texts_ents (l : List ByteArray) : textsE (entsOf l) = l := by
  unfold textsE
  apply List.ext_getElem?
  intro i
  unfold entsOf
  rw [List.getElem?_map, List.getElem?_mapIdx]
  cases l[i]? <;> rfl
theorem small_recs {l : List ByteArray} (hl : l.length ≤ 100) : ∀ c ∈ recsOf l, small3 c := by
  intro c hc
  obtain ⟨i, hi⟩ := List.mem_iff_getElem?.1 hc
  obtain ⟨t, h1, rfl⟩ := recsOf_inv hi
  have := (List.getElem?_eq_some_iff.1 h1).1
  exact ⟨⟨by simp [mkR]; omega, by simp [mkR]; omega⟩, ⟨by simp [mkR]; omega, by simp [mkR]; omega⟩, ⟨by simp [mkR], by simp [mkR]⟩⟩
theorem expect_stay (l : List ByteArray) (hl : l.length ≤ 100) (htx : ∀ t ∈ l, t.size ≤ 500) (s : Sd) (w : World) (hs : SdOk w.heap.size w s) (he : s.e = entsOf l) (hg : s.g = []) (hp : s.p = []) (hr : s.r = recsOf l) (by' : Int) (slow : Bool) :
    Calls Tryz.prog 6 #[sdV s, .int .i64 by', .bool slow] w (ExpPost (sortB l) w) := by
  refine expect_any s w hs hp by' slow l (by rw [hr]; exact small_recs hl) ?_
  intro W d v ver hB hBz hD hv0 hv1
  rw [hr] at hD
  have hK : ∀ w', Kept (fun k => some k = v.ownBlock) W w' → Below w.heap.size W w' := fun w' hk => hk.below hBz (fun k e => (hD.own.lt k e.symm).1)
  cases slow with
  | true =>
    refine (slow_stay l hD s (hs.old hB) hBz he hg hl htx).mono ?_
    rintro e w' ⟨h1, h2, h3⟩
    exact ⟨h1, v, ver, _, texts_recs l, by rw [recsOf_len]; omega, h2, hK _ h3⟩
  | false =>
    refine (fast_stay l hD s (hs.old hB) hBz he hg hl).mono ?_
    rintro e w' ⟨h1, h2, h3⟩
    exact ⟨h1, v, ver, _, texts_recs l, by rw [recsOf_len]; omega, h2, hK _ h3⟩
def wT (rule : Int) : ByteArray := if rule = 2 then ⟨#[120]⟩ else ⟨#[121]⟩
theorem expect_works (s : Sd) (w : World) (hs : SdOk w.heap.size w s) (he : s.e = [xE]) (hg : s.g = []) (hp : s.p = []) (hr : s.r = [rW]) (rule : Int) (hrule : rule = 1 ∨ rule = 2) :
    Calls Tryz.prog 6 #[sdV s, .int .i64 rule, .bool false] w (ExpPost (sortB [wT rule]) w) := by
  refine expect_any s w hs hp rule false [wT rule] (by rw [hr]; intro c hc; simp at hc; subst hc; exact ⟨⟨by decide, by decide⟩, ⟨by decide, by decide⟩, ⟨by decide, by decide⟩⟩) ?_
  intro W d v ver hB hBz hD hv0 hv1
  rw [hr] at hD
  obtain ⟨g, cap, rfl⟩ : ∃ g cap, v = .slice (some ⟨g, 0, none⟩) [rW].length cap := own_some2 hD.own (by simp)
  have hgl := (hD.own.lt g rfl).1
  refine (fast_works hD hrule hv1 s ((hs.old hB).up hBz) he hg).mono ?_
  rintro e w' ⟨h1, c, ver2, hc1, hc2, h2, h3⟩
  refine ⟨h1, _, ver2, [c], ?_, by simp, h2, h3.below hBz (fun k e => ?_)⟩
  · simp [textsR, hc1, hc2, wT]
  · rcases e with rfl | rfl
    · exact hgl
    · exact hD.bb
theorem sort_one (t : ByteArray) : sortB [t] = [t] := by simp [sortB]
set_option maxHeartbeats 8000000 in
set_option maxRecDepth 100000 in
theorem works_any (w : World) : Calls Tryz.prog 4 #[] w (BelowPost (.bool true) w) := by
  obtain ⟨W1, hW1⟩ : ∃ x, ((w.alloc (.cells #[.int .i64 5, .int .i64 3, .int .i64 2, .string ⟨#[120]⟩] 30)).alloc (.cells #[.int .i64 1, .bool true, .int .i64 4, .string ⟨#[121]⟩, .int .i64 5, .int .i64 2, .string ⟨#[98]⟩, .int .i64 0, .string ⟨#[]⟩] 32)).alloc (.cells #[.slice (some ⟨w.heap.size, 0, none⟩) 1 1, .slice none 0 0, .slice none 0 0, .slice (some ⟨w.heap.size + 1, 0, none⟩) 1 1] 28) = x := ⟨_, rfl⟩
  have hb1 : Below w.heap.size w W1 := by rw [← hW1]; exact (((Below.refl _ _).alloc (Nat.le_refl _) _).alloc (by simp) _).alloc (by simp; omega) _
  have hz1 : W1.heap.size = w.heap.size + 3 := by rw [← hW1]; simp
  have hs : SdOk W1.heap.size W1 { e := [xE], g := [], p := [], r := [rW], ea := some ⟨w.heap.size, 0, none⟩, ga := none, pa := none, ra := some ⟨w.heap.size + 1, 0, none⟩, ec := 1, gc := 0, pc := 0, rc := 1 } :=
    { e := SlAt.of_cells (xs := cellsEnt xE) (by show _ < _; omega) (by omega) (by
        intro i v hi
        rw [← hW1]
        match i, hi with
        | 0, hi => simp [cellsEnt, xE] at hi; subst hi; simp [go_sem]
        | 1, hi => simp [cellsEnt, xE] at hi; subst hi; simp [go_sem]
        | 2, hi => simp [cellsEnt, xE] at hi; subst hi; simp [go_sem]
        | 3, hi => simp [cellsEnt, xE] at hi; subst hi; simp [go_sem]
        | i + 4, hi => simp [cellsEnt] at hi) (by simpa using (RowsOf.nil rEnt _ W1).snoc (ent_rel _ W1 xE ⟨Wf.of (by decide) (by decide), Wf.of (by decide) (by decide), Wf.of (by decide) (by decide), by unfold maxTx; decide⟩))
      g := .inl rfl
      p := .inl rfl
      r := SlAt.of_cells (xs := cellsRec rW) (by show _ < _; omega) (by omega) (by
        intro i v hi
        rw [← hW1]
        match i, hi with
        | 0, hi => simp [cellsRec, rW] at hi; subst hi; simp [go_sem]
        | 1, hi => simp [cellsRec, rW] at hi; subst hi; simp [go_sem]
        | 2, hi => simp [cellsRec, rW] at hi; subst hi; simp [go_sem]
        | 3, hi => simp [cellsRec, rW] at hi; subst hi; simp [go_sem]
        | 4, hi => simp [cellsRec, rW] at hi; subst hi; simp [go_sem]
        | 5, hi => simp [cellsRec, rW] at hi; subst hi; simp [go_sem]
        | 6, hi => simp [cellsRec, rW] at hi; subst hi; simp [go_sem]
        | 7, hi => simp [cellsRec, rW] at hi; subst hi; simp [go_sem]
        | 8, hi => simp [cellsRec, rW] at hi; subst hi; simp [go_sem]
        | i + 9, hi => simp [cellsRec] at hi) (by simpa using (RowsOf.nil rRec _ W1).snoc (rec_rel _ W1 rW (okRec_mk (Wf.of (by decide) (by decide)) (Wf.of (by decide) (by decide)) (by unfold maxTx; decide) (Wf.of (by decide) (by decide)) (Wf.of (by decide) (by decide)) (by unfold maxTx; decide) (Wf.of (by decide) (by decide)) (by unfold maxTx; decide))))
      el := by simp
      gl := by simp
      pl := by simp
      rl := by simp }
  have x0 : W1.cell? ⟨w.heap.size + 1 + 1, 0, none⟩ = some (.slice (some ⟨w.heap.size, 0, none⟩) 1 1) := by rw [← hW1]; simp [go_sem]
  have x1 : W1.cell? ⟨w.heap.size + 1 + 1, 1, none⟩ = some (.slice none 0 0) := by rw [← hW1]; simp [go_sem]
  have x2 : W1.cell? ⟨w.heap.size + 1 + 1, 2, none⟩ = some (.slice none 0 0) := by rw [← hW1]; simp [go_sem]
  have x3 : W1.cell? ⟨w.heap.size + 1 + 1, 3, none⟩ = some (.slice (some ⟨w.heap.size + 1, 0, none⟩) 1 1) := by rw [← hW1]; simp [go_sem]
  have hbx : w.heap.size + 1 + 1 < W1.heap.size := by omega
  have H1 := Lib.hid (fun wx (hb : Below W1.heap.size W1 wx) => expect_works _ wx ((hs.old hb).up hb.size) rfl rfl rfl rfl 2 (.inr rfl))
  have H2 := Lib.hid (fun wx (hb : Below W1.heap.size W1 wx) => expect_works _ wx ((hs.old hb).up hb.size) rfl rfl rfl rfl 1 (.inl rfl))
  have H3 := Lib.hid (fun wx (hb : Below W1.heap.size W1 wx) => pending_any _ wx ((hs.old hb).up hb.size))
  rw [sort_one] at H1 H2
  unfold sdV at H1 H2 H3
  simp only [List.length_nil, List.length_cons, Nat.zero_add] at H1 H2 H3
  have HW1 := Lib.hid hW1
  have HB1 := Lib.hid hb1
  have hst := Below.refl W1.heap.size W1
  clear hs hW1 hz1 hb1
  go_enter Tryz.func4, Tryz.ntmps4
  go_upto_region 2 with fail
  rw [HW1.out]
  go_wp2_with fail
  refine (H1.out _ hst).mono ?_
  rintro e w2 ⟨va, rfl, hOa, hba⟩
  have x0 := (hba.cell (p := ⟨w.heap.size + 1 + 1, 0, none⟩) hbx).trans x0
  have x1 := (hba.cell (p := ⟨w.heap.size + 1 + 1, 1, none⟩) hbx).trans x1
  have x2 := (hba.cell (p := ⟨w.heap.size + 1 + 1, 2, none⟩) hbx).trans x2
  have x3 := (hba.cell (p := ⟨w.heap.size + 1 + 1, 3, none⟩) hbx).trans x3
  have HBA := Lib.hid hba
  have HOA := Lib.hid hOa
  clear hba hOa
  go_wp2_with fail
  refine (H2.out _ HBA.out).mono ?_
  rintro e w3 ⟨vb, rfl, hOb, hbb⟩
  have hbx2 : w.heap.size + 1 + 1 < w2.heap.size := by have := HBA.out.size; omega
  have x0 := (hbb.cell (p := ⟨w.heap.size + 1 + 1, 0, none⟩) hbx2).trans x0
  have x1 := (hbb.cell (p := ⟨w.heap.size + 1 + 1, 1, none⟩) hbx2).trans x1
  have x2 := (hbb.cell (p := ⟨w.heap.size + 1 + 1, 2, none⟩) hbx2).trans x2
  have x3 := (hbb.cell (p := ⟨w.heap.size + 1 + 1, 3, none⟩) hbx2).trans x3
  have hOa3 := HOA.out.below hbb
  have HB3 := Lib.hid (chain HBA.out hbb)
  obtain ⟨ao, ca, hva⟩ := hOa3.form
  obtain ⟨bo, cb, hvb⟩ := hOb.form
  rw [show [wT 2].length = 1 from rfl] at hva
  rw [show [wT 1].length = 1 from rfl] at hvb
  subst hva
  subst hvb
  obtain ⟨b1, o1, rfl, _, _, _, y1⟩ := str_get (k := 0) (c := wT 2) hOa3.here rfl
  obtain ⟨b2, o2, rfl, _, _, _, y2⟩ := str_get (k := 0) (c := wT 1) hOb.here rfl
  have HB4 := Lib.hid (chain HB1.out HB3.out)
  have HP := Lib.hid (H3.out _ HB3.out)
  rw [show pendB { e := [xE], g := [], p := [], r := [rW], ea := some ⟨w.heap.size, 0, none⟩, ga := none, pa := none, ra := some ⟨w.heap.size + 1, 0, none⟩, ec := 1, gc := 0, pc := 0, rc := 1 } = true by simp [pendB, xE]] at HP
  rw [show wT 2 = ⟨#[120]⟩ from rfl, Nat.add_zero] at y1
  rw [show wT 1 = ⟨#[121]⟩ from rfl, Nat.add_zero] at y2
  clear hbb hOa3 hOb H1 H2 H3 HOA
  go_wp2_with fail
  refine HP.out.mono ?_
  rintro e w4 ⟨rfl, hb4⟩
  go_wp2_with fail
  go_ret
  exact ⟨rfl, chain HB4.out hb4⟩
end Go.Proofs.YtefefpiealknlaaGreatDoor
