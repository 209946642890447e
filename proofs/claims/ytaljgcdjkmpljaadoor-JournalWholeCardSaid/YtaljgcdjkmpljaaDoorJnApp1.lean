/- The five steps of an Append. -/
import Derived.Test.YtaljgcdjkmpljaaDoorJnApp0
namespace Go.Proofs.YtaljgcdjkmpljaaDoor
open Go.RowKit Lift
set_option linter.unusedSimpArgs false
set_option linter.unusedVariables false

def appFs (F : Fp) (bj bs bn : Nat) : List Fv :=
  [(35, [], [.pointer (some ⟨bj, 0, none⟩), .pointer (some ⟨bs, 0, none⟩)]), (37, [], [.pointer (some ⟨bj, 0, none⟩), .pointer (some ⟨bn, 0, none⟩)]),
   (38, [.pointer (some ⟨F.b, 0, none⟩)], []), (39, [], [.pointer (some ⟨bj, 0, none⟩), .pointer (some ⟨bs, 0, none⟩)]), (38, [.pointer (some ⟨F.b, 0, none⟩)], [])]
theorem app_ops (js : JSt) (s : ByteArray) : ([layOps js.en s ((s.size + 63) / 64), [some (js.en + needN s.size, ⟨#[]⟩)], [none], [some (js.en, headB js.recs.length js.gen s)], [none]] : List (List Step)).flatten = appOps js s := by
  simp [appOps]
set_option maxHeartbeats 4000000 in
set_option maxRecDepth 100000 in
theorem app_steps {base : Nat} {W : World} {F : Fp} {st : St} {J : JF} {js : JSt} {bj bs bn g : Nat} {s : ByteArray} (h : JRaw base W F st J js) (e0 : W.cell? ⟨bj, 0, none⟩ = some (.pointer (some ⟨J.b, 0, none⟩))) (e1 : W.cell? ⟨bs, 0, none⟩ = some (.string s)) (e2 : W.cell? ⟨bn, 0, none⟩ = some (.int .i64 ((js.en + needN s.size : Nat) : Int)))
    (hn : ∀ k, k = bj ∨ k = bs ∨ k = bn ∨ k = g → k < W.heap.size ∧ ¬ foot F k) (hg : ∀ (k : Nat) c, (appFs F bj bs bn)[k]? = some c → W.cell? ⟨g, k, none⟩ = some (fvV c)) (hs : s.size ≤ 1048576) (hlo : st.lo.length ≤ 1000000) :
    Calls Tryd.prog 34 #[.slice (some ⟨g, 0, none⟩) 5 5] W (fun e W' => e = .returned (.int .i64 (runOps st (appOps js s)).2) ∧ PlS base F (runOps st (appOps js s)).1 W W') := by
  rw [← app_ops]
  have hll : (layOps js.en s ((s.size + 63) / 64)).length ≤ 20000 := by simp [layOps]; omega
  refine steps_run h.raw (some ⟨g, 0, none⟩) 5 (appFs F bj bs bn) _ rfl (by simp [appFs]) (by simp; omega)
    (by intro f hf; simp [appFs] at hf; rcases hf with rfl | rfl | rfl | rfl | rfl <;> (intro args w; kernel_rfl))
    (.inr ⟨g, 0, rfl, (hn g (by simp)).2, (hn g (by simp)).1, fun k c hk => ⟨[fvV c], rfl, fun i v hi => by
      match i, hi with
      | 0, hi => cases hi; rw [show (0 + k * rFv.n + 0) = k by simp [rFv]]; exact hg k c hk
      | i + 1, hi => simp at hi⟩⟩) ?_
  intro k f os hf hos W' st' hP hnl hlo'
  have e0' := hP.cell e0 (hn bj (by simp)).1 (hn bj (by simp)).2
  have e1' := hP.cell e1 (hn bs (by simp)).1 (hn bs (by simp)).2
  have e2' := hP.cell e2 (hn bn (by simp)).1 (hn bn (by simp)).2
  obtain ⟨F', hR', hb', hft, hk⟩ := hP
  have hJ := h.plate hR' hb' hft hk hnl
  have hlo2 : st'.lo.length ≤ 100000000 := by
    simp at hlo'; omega
  match k, hf, hos with
  | 0, hf, hos =>
    cases hf; cases hos
    refine (app1_any hJ e0' e1' hs hlo2).mono ?_
    rintro e w1 ⟨rfl, hp⟩
    exact ⟨rfl, PlS.on hb' hft hk hp⟩
  | 1, hf, hos =>
    cases hf; cases hos
    rw [runOps_one]
    refine (app2_any hJ e0' e2' hlo2).mono ?_
    rintro e w1 ⟨rfl, hp⟩
    exact ⟨rfl, PlS.on hb' hft hk hp⟩
  | 2, hf, hos =>
    cases hf; cases hos
    rw [runOps_one, ← hb']
    refine (sync_any hR' (by omega)).mono ?_
    intro e w1 hp
    obtain ⟨rfl, hq⟩ := hp.s
    exact ⟨rfl, PlS.on hb' hft hk hq⟩
  | 3, hf, hos =>
    cases hf; cases hos
    rw [runOps_one]
    refine (app3_any hJ e0' e1' (fun hx => ?_) (fun hx => ?_) hs hlo2).mono ?_
    · rcases hft _ hx with h1 | h1
      · exact (hn bj (by simp)).2 h1
      · have := (hn bj (by simp)).1; omega
    · rcases hft _ hx with h1 | h1
      · exact (hn bs (by simp)).2 h1
      · have := (hn bs (by simp)).1; omega
    · rintro e w1 ⟨rfl, hp⟩
      exact ⟨rfl, PlS.on hb' hft hk hp⟩
  | 4, hf, hos =>
    cases hf; cases hos
    rw [runOps_one, ← hb']
    refine (sync_any hR' (by omega)).mono ?_
    intro e w1 hp
    obtain ⟨rfl, hq⟩ := hp.s
    exact ⟨rfl, PlS.on hb' hft hk hq⟩
  | k + 5, hf, hos => simp [appFs] at hf
end Go.Proofs.YtaljgcdjkmpljaaDoor
