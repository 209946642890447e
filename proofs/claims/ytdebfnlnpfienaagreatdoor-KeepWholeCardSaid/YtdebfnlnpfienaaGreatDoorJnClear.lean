/- A sector is cleared; a journal's place; Format. -/
import Derived.Test.YtdebfnlnpfienaaGreatDoorJnSteps
namespace Go.Proofs.YtdebfnlnpfienaaGreatDoor
open Go.RowKit Lift
set_option linter.unusedSimpArgs false
set_option linter.unusedVariables false

/-- A plate in another state, in a world behind. -/
def PlS (base : Nat) (F : Fp) (st : St) (w w' : World) : Prop := ∃ F', Raw base w' F' st ∧ F'.b = F.b ∧ (∀ k, foot F' k → foot F k ∨ w.heap.size ≤ k) ∧ Kept (foot F) w w'
theorem PlPost.s {base : Nat} {F : Fp} {st : St} {v : Value} {w w' : World} {e : Ending} (h : PlPost base F st v w e w') : e = .returned v ∧ PlS base F st w w' := by
  obtain ⟨F', h1, h2, h3, h4, h5⟩ := h
  exact ⟨h1, F', h2, h3, h4, h5⟩
theorem PlS.post {base : Nat} {F : Fp} {st : St} {w w' : World} (h : PlS base F st w w') (v : Value) : PlPost base F st v w (.returned v) w' := by
  obtain ⟨F', h2, h3, h4, h5⟩ := h
  exact ⟨F', rfl, h2, h3, h4, h5⟩
theorem PlS.refl {base : Nat} {F : Fp} {st : St} {w : World} (h : Raw base w F st) : PlS base F st w w := ⟨F, h, rfl, fun k h => .inl h, Kept.refl _ _⟩
theorem PlS.on {base : Nat} {F F1 : Fp} {st2 : St} {w w1 w2 : World} (h3 : F1.b = F.b) (h4 : ∀ k, foot F1 k → foot F k ∨ w.heap.size ≤ k) (h5 : Kept (foot F) w w1) (h : PlS base F1 st2 w1 w2) : PlS base F st2 w w2 := by
  obtain ⟨F2, k2, k3, k4, k5⟩ := h
  have hz := h5.size
  refine ⟨F2, k2, k3.trans h3, fun k hk => ?_, h5.trans k5 (fun _ _ h => h) (fun k hk h => ?_)⟩
  · rcases k4 k hk with h | h
    · exact h4 k h
    · exact .inr (by omega)
  · rcases h4 k h with h | h
    · exact h
    · omega
theorem PlS.next {base : Nat} {F : Fp} {st st2 : St} {w w1 w2 : World} (h : PlS base F st w w1) (hn : ∀ F', Raw base w1 F' st → F'.b = F.b → PlS base F' st2 w1 w2) : PlS base F st2 w w2 := by
  obtain ⟨F1, h2, h3, h4, h5⟩ := h
  exact PlS.on h3 h4 h5 (hn F1 h2 h3)
theorem runOps_one (st : St) (o : Step) : runOps st [o] = (stepSt st o, stepEr st o) := by
  simp only [runOps]
  split
  · rename_i h; rw [h]
  · rfl
/-- Ahead of it the call laid blocks. -/
theorem PlS.back {base : Nat} {F : Fp} {st : St} {w w0 w1 : World} (h : PlS base F st w0 w1) (hb : Below w.heap.size w w0) : PlS base F st w w1 := by
  obtain ⟨F1, h2, h3, h4, h5⟩ := h
  have hz := hb.size
  exact ⟨F1, h2, h3, fun k hk => (h4 k hk).imp id (fun h => by omega), (Kept.of_below hb (fun _ => False)).trans h5 (fun _ _ h => h.elim) (fun _ _ h => h)⟩
theorem PlS.below {base : Nat} {F : Fp} {st : St} {w w1 w2 : World} (h : PlS base F st w w1) (hb : Below w1.heap.size w1 w2) : PlS base F st w w2 :=
  h.next (fun F' hR _ => ⟨F', hR.below hb, rfl, fun k h => .inl h, Kept.of_below hb _⟩)
/-- What lies apart stays. -/
theorem PlS.cell {base : Nat} {F : Fp} {st : St} {w w' : World} (h : PlS base F st w w') {b o : Nat} {v : Value} (hc : w.cell? ⟨b, o, none⟩ = some v) (hb : b < w.heap.size) (hn : ¬ foot F b) : w'.cell? ⟨b, o, none⟩ = some v := by
  obtain ⟨F1, h2, h3, h4, h5⟩ := h
  exact (h5.cell (p := ⟨b, o, none⟩) hb hn).trans hc
theorem step_lo (st : St) (o : Step) : (stepSt st o).lo.length ≤ st.lo.length + 1 := by
  cases o with
  | none => exact sync_lo
  | some p => exact put_lo
theorem runOps_lo : ∀ (l : List Step) (st : St), (runOps st l).1.lo.length ≤ st.lo.length + l.length
  | [], st => by simp [runOps]
  | o :: r, st => by
    have h1 := step_lo st o
    have h2 := runOps_lo r (stepSt st o)
    simp only [runOps, List.length_cons]
    split
    · omega
    · simp only; omega
theorem putS_len (st : St) (x : Int) (s : ByteArray) : (putS st x s).no.length = st.no.length := by
  unfold putS
  split
  · split
    · rfl
    · split
      · simp [burnS_same.2.1]
      · rw [burnS_same.2.1]
  · rfl
theorem syncS_len (st : St) : (syncS st).no.length = st.no.length := by
  unfold syncS
  split
  · rfl
  · split
    · show (burnS st).no.length = _; rw [burnS_same.2.1]
    · rw [burnS_same.2.1]
theorem stepSt_len (st : St) (o : Step) : (stepSt st o).no.length = st.no.length := by
  cases o with
  | none => exact syncS_len st
  | some p => exact putS_len st _ _
theorem runOps_len : ∀ (l : List Step) (st : St), (runOps st l).1.no.length = st.no.length
  | [], _ => rfl
  | o :: r, st => by
    simp only [runOps]
    split
    · rw [runOps_len r, stepSt_len]
    · exact stepSt_len st o
/-- Steps that are functions, each of some steps of the plate. -/
theorem steps_run {base : Nat} {F : Fp} {st : St} {w0 : World} (h : Raw base w0 F st) (ao : Option Addr) (cap : Nat) (fs : List Fv) (oss : List (List Step)) (hl : fs.length = oss.length) (hlen : fs.length ≤ 1000) (hlo : st.lo.length + oss.flatten.length ≤ 1000000000)
    (hen : ∀ f ∈ fs, ∀ (args : Array Value) (w : World), (callFunc f.1 args).run Tryz.prog w = .ok (.enter f.1 args) w)
    (hS : SlAt rFv (fun k => ¬ foot F k) w0 ao fs)
    (hc : ∀ (k : Nat) (f : Fv) (os : List Step), fs[k]? = some f → oss[k]? = some os → ∀ W st', PlS base F st' w0 W → st'.no.length = st.no.length → st'.lo.length + os.length ≤ st.lo.length + oss.flatten.length → Calls Tryz.prog f.1 (f.2.1 ++ f.2.2).toArray W (fun e W' => e = .returned (.int .i64 (runOps st' os).2) ∧ PlS base F (runOps st' os).1 w0 W')) :
    Calls Tryz.prog 57 #[.slice ao fs.length cap] w0 (fun e W' => e = .returned (.int .i64 (runOps st oss.flatten).2) ∧ PlS base F (runOps st oss.flatten).1 w0 W') := by
  refine (steps_any ao cap fs w0 (fun k W => (runOps st (oss.take k).flatten).2 = 0 ∧ PlS base F (runOps st (oss.take k).flatten).1 w0 W) (fun x W => x = (runOps st oss.flatten).2 ∧ PlS base F (runOps st oss.flatten).1 w0 W) hlen hen ?_ ?_ ?_).mono ?_
  · rintro k W ⟨_, F', h2, h3, h4, h5⟩
    exact SlAt.mono (SlAt.kept hS h5 (fun b hb _ => hb)) (fun _ _ _ => trivial)
  · rintro k f hf W ⟨h0, hP⟩
    obtain ⟨os, hos⟩ := some_at (l := oss) (k := k) (by have := (List.getElem?_eq_some_iff.1 hf).1; omega)
    have hT : (oss.take (k + 1)).flatten = (oss.take k).flatten ++ os := by rw [take_at2 hos]; simp
    have hD : oss.flatten = (oss.take (k + 1)).flatten ++ (oss.drop (k + 1)).flatten := by rw [← List.flatten_append, List.take_append_drop]
    have hlo2 := runOps_lo (oss.take k).flatten st
    have hln := congrArg List.length hD
    rw [List.length_append, hT, List.length_append] at hln
    have hrun : runOps st (oss.take (k + 1)).flatten = runOps (runOps st (oss.take k).flatten).1 os := by rw [hT, runOps_append, if_pos h0]
    refine (hc k f os hf hos W _ hP (runOps_len _ _) (by omega)).mono ?_
    rintro e W' ⟨rfl, hP'⟩
    refine ⟨_, rfl, fun hx => ?_, fun hx => ?_⟩
    · rw [hrun]; exact ⟨hx, hP'⟩
    · have : runOps st oss.flatten = runOps (runOps st (oss.take k).flatten).1 os := by rw [hD, runOps_append, hrun, if_neg hx]
      rw [this]; exact ⟨rfl, hP'⟩
  · exact ⟨by simp [runOps], by simpa [runOps] using PlS.refl h⟩
  · rintro e W' ⟨x, rfl, ⟨rfl, h1, h2⟩ | ⟨_, rfl, h2⟩⟩
    · rw [hl, List.take_length] at h1 h2
      rw [h1]; exact ⟨rfl, h2⟩
    · exact ⟨rfl, h2⟩
set_option maxHeartbeats 1000000 in
set_option maxRecDepth 100000 in
theorem clear1_any {base : Nat} {w : World} {F : Fp} {st : St} (h : Raw base w F st) (b1 b2 a : Nat) (h1 : w.cell? ⟨b1, 0, none⟩ = some (.pointer (some ⟨F.b, 0, none⟩))) (h2 : w.cell? ⟨b2, 0, none⟩ = some (.int .i64 a)) (hll : st.lo.length ≤ 1000000000) :
    Calls Tryz.prog 77 #[.pointer (some ⟨b1, 0, none⟩), .pointer (some ⟨b2, 0, none⟩)] w (PlPost base F (putS st a ⟨#[]⟩) (.int .i64 (putE st a ⟨#[]⟩)) w) := by
  have HP := Lib.hid (put_any h a ⟨#[]⟩ (by decide) hll)
  clear h
  go_enter Tryz.func77, Tryz.ntmps77
  go_wp2_with fail
  refine HP.out.mono ?_
  rintro e w1 h1
  obtain ⟨rfl, hs⟩ := h1.s
  go_wp2_with fail
  go_ret
  exact hs.post _
set_option maxHeartbeats 1000000 in
set_option maxRecDepth 100000 in
theorem clear_any {base : Nat} {w : World} {F : Fp} {st : St} (h : Raw base w F st) (a : Nat) (ha : a ≤ 100000) (hll : st.lo.length ≤ 100000000) :
    Calls Tryz.prog 45 #[.pointer (some ⟨F.b, 0, none⟩), .int .i64 a] w (PlPost base F (runOps st [some (a, ⟨#[]⟩), none]).1 (.int .i64 (runOps st [some (a, ⟨#[]⟩), none]).2) w) := by
  have H := Lib.hid h
  clear h
  go_enter Tryz.func45, Tryz.ntmps45
  have hB1 : Below w.heap.size w ((w.alloc (.cells #[.pointer (some ⟨F.b, 0, none⟩)] 24)).alloc (.cells #[.int .i64 a] 3)) := ((Below.refl _ w).alloc (Nat.le_refl _) _).alloc (by simp) _
  obtain ⟨W0, hW0⟩ : ∃ W0, ((w.alloc (.cells #[.pointer (some ⟨F.b, 0, none⟩)] 24)).alloc (.cells #[.int .i64 a] 3)).alloc (.cells #[fvV (77, [], [.pointer (some ⟨w.heap.size, 0, none⟩), .pointer (some ⟨w.heap.size + 1, 0, none⟩)]), fvV (43, [.pointer (some ⟨F.b, 0, none⟩)], [])] 41) = W0 := ⟨_, rfl⟩
  have hsz : W0.heap.size = w.heap.size + 3 := by subst hW0; simp
  have hB : Below w.heap.size w W0 := by subst hW0; exact hB1.alloc (by simp; omega) _
  have d0 : W0.cell? ⟨w.heap.size, 0, none⟩ = some (.pointer (some ⟨F.b, 0, none⟩)) := by subst hW0; simp [go_sem]
  have d1 : W0.cell? ⟨w.heap.size + 1, 0, none⟩ = some (.int .i64 a) := by subst hW0; simp [go_sem]
  have d2 : ∀ i, W0.cell? ⟨w.heap.size + 1 + 1, i, none⟩ = (#[fvV (77, [], [.pointer (some ⟨w.heap.size, 0, none⟩), .pointer (some ⟨w.heap.size + 1, 0, none⟩)]), fvV (43, [.pointer (some ⟨F.b, 0, none⟩)], [])] : Array Value)[i]? := fun i => by subst hW0; simp [go_sem]
  have hR0 := H.out.below hB
  have hnf : ∀ k, w.heap.size ≤ k → ¬ foot F k := fun k hk hf => by have := H.out.inb k hf; omega
  have hrun := steps_run hR0 (some ⟨w.heap.size + 1 + 1, 0, none⟩) 2 [(77, [], [.pointer (some ⟨w.heap.size, 0, none⟩), .pointer (some ⟨w.heap.size + 1, 0, none⟩)]), (43, [.pointer (some ⟨F.b, 0, none⟩)], [])] [[some (a, ⟨#[]⟩)], [none]] rfl (by simp) (by simp; omega)
    (by intro f hf; simp at hf; rcases hf with rfl | rfl <;> (intro args w; kernel_rfl))
    (.inr ⟨w.heap.size + 1 + 1, 0, rfl, hnf _ (by omega), by omega, fun k c hk => ⟨[fvV c], rfl, fun i v hi => by
      match i, hi with
      | 0, hi => cases hi; rw [show (0 + k * rFv.n + 0) = k by simp [rFv]]; rw [d2]; match k, hk with
        | 0, hk => cases hk; rfl
        | 1, hk => cases hk; rfl
        | k + 2, hk => simp at hk
      | i + 1, hi => simp at hi⟩⟩)
    (by
      intro k f os hf hos W st' hP hnl hlo
      match k, hf, hos with
      | 0, hf, hos =>
        cases hf; cases hos
        have e0 := hP.cell d0 (by omega) (hnf _ (Nat.le_refl _))
        have e1 := hP.cell d1 (by omega) (hnf _ (by omega))
        obtain ⟨F', hR', hb', hft, hk⟩ := hP
        rw [← hb'] at e0
        rw [runOps_one]
        refine (clear1_any hR' _ _ a e0 e1 (by simp at hlo; omega)).mono ?_
        intro e W' hp
        obtain ⟨rfl, hs⟩ := hp.s
        exact ⟨rfl, PlS.on hb' hft hk hs⟩
      | 1, hf, hos =>
        cases hf; cases hos
        obtain ⟨F', hR', hb', hft, hk⟩ := hP
        rw [runOps_one, ← hb']
        refine (sync_any hR' (by simp at hlo; omega)).mono ?_
        intro e W' hp
        obtain ⟨rfl, hs⟩ := hp.s
        exact ⟨rfl, PlS.on hb' hft hk hs⟩
      | k + 2, hf, hos => simp at hf)
  have HRun := Lib.hid hrun
  clear hrun d0 d1 d2
  go_wp2_with fail
  subst hW0
  refine HRun.out.mono ?_
  rintro e w1 ⟨rfl, hs⟩
  have HS := Lib.hid (hs.back hB)
  clear hs
  rw [show ([[some (a, (⟨#[]⟩ : ByteArray))], [none]] : List (List Step)).flatten = [some (a, ⟨#[]⟩), none] from rfl] at *
  go_wp2_with fail
  go_ret
  exact HS.out.post _
end Go.Proofs.YtdebfnlnpfienaaGreatDoor
