/- A keep's calls, wherever the power goes: plain (no program in sight). -/
import Derived.Test.YtdebfnlnpfienaaGreatDoorKwPure
namespace Go.Proofs.YtdebfnlnpfienaaGreatDoor
open Go.RowKit Lift
set_option linter.unusedSimpArgs false
set_option linter.unusedVariables false

def hN (n : Nat) : Nat := (n - 2) / 2
def pN (n g : Nat) : Nat := 2 + g % 2 * hN n
theorem pN_le (n g : Nat) (h : 10 ≤ n) : 2 ≤ pN n g ∧ pN n g + hN n ≤ n ∧ 4 ≤ hN n := by
  unfold pN hN
  rcases (by omega : g % 2 = 0 ∨ g % 2 = 1) with h | h <;> rw [h] <;> omega
theorem pN_apart (n g : Nat) : pN n g + hN n ≤ pN n (g + 1) ∨ pN n (g + 1) + hN n ≤ pN n g := by
  unfold pN
  rcases (by omega : g % 2 = 0 ∧ (g + 1) % 2 = 1 ∨ g % 2 = 1 ∧ (g + 1) % 2 = 0) with ⟨h, h2⟩ | ⟨h, h2⟩ <;> rw [h, h2] <;> omega
/-- A plate at rest on which a keep of a generation stands, with its records. -/
structure KX (n : Nat) (st : St) (g : Nat) (recs : List ByteArray) : Prop where
  len : st.no.length = n
  hf : Hf st (pN n g + hN n) g (pN n g) recs
  rt : st.no[g % 2]? = some (rootL g)
  ot : ∃ o, st.no[1 - g % 2]? = some o ∧ Oth g o
  gn : g < 4294967296
/-- A plate that says pairs. -/
def KSay (n B : Nat) (st : St) (kv : List KV) : Prop := ∃ g recs, KX n st g recs ∧ Cont recs kv ∧ g ≤ B
/-- A keep that is in use: its plate, its journal and what it has. -/
structure KL (n : Nat) (st : St) (js : JSt) (ks : KSt) : Prop where
  len : st.no.length = n
  jn : Jn st js (pN n ks.gen)
  lim : js.lim = pN n ks.gen + hN n
  jg : js.gen = ks.gen
  rt : st.no[ks.gen % 2]? = some (rootL ks.gen)
  oz : st.no[1 - ks.gen % 2]? = some zer
  gn : ks.gen < 4294967296
  kd : ks.dead = false
  cont : Cont js.recs ks.kv
section
variable {n g : Nat} {st Y : St} {js : JSt} {ks : KSt} {recs : List ByteArray}
theorem KX.wf (h : KX n st g recs) (f : Int) : KX n (wf st f false) g recs := ⟨h.len, h.hf.wf f, h.rt, h.ot, h.gn⟩
theorem KL.wf (h : KL n st js ks) (f : Int) : KL n (wf st f false) js ks := ⟨h.len, h.jn.wf f, h.lim, h.jg, h.rt, h.oz, h.gn, h.kd, h.cont⟩
theorem KX.move (h : KX n st g recs) (hY : Rst Y) (hl : Y.no.length = st.no.length) (hr : Y.no[g % 2]? = some (rootL g)) (ho : ∃ o, Y.no[1 - g % 2]? = some o ∧ Oth g o) (ha : ∀ i, pN n g ≤ i → i < pN n g + hN n → Y.no[i]? = st.no[i]?) : KX n Y g recs :=
  ⟨hl.trans h.len, h.hf.move hY hl ha, hr, ho, h.gn⟩
theorem KX.crash0 (h : KX n st g recs) (K : List Int) : KX n (crashS st K) g recs := by
  have hr := h.hf.rst
  exact h.move (hr.good.rst K) (crashS_len _ _) (by rw [hr.crash]; exact h.rt) (by rw [hr.crash]; exact h.ot) (fun i _ _ => by rw [hr.crash])
theorem KL.kx (h : KL n st js ks) : KX n st ks.gen js.recs := by
  have := h.jn.hf
  rw [h.lim, h.jg] at this
  exact ⟨h.len, this, h.rt, ⟨zer, h.oz, .inl zer_nr⟩, h.gn⟩
theorem KL.say (h : KL n st js ks) {B : Nat} (hg : ks.gen ≤ B) (K : List Int) : KSay n B (crashS st K) ks.kv := ⟨_, _, h.kx.crash0 K, h.cont, hg⟩
theorem KL.few (h : KL n st js ks) (hn : n ≤ 82) : ks.kv.length ≤ 640 := by
  have h1 := h.cont.few (pN n ks.gen)
  have h2 := h.kx.hf.enl
  have h3 : hN n ≤ 40 := by unfold hN; omega
  omega
theorem all_room (h : (allB ks.kv).size ≤ roomI st 0) : (allB ks.kv).size ≤ 1048576 := by unfold roomI at h; omega
theorem one_sec {st X : St} {a : Nat} {d : List UInt8} (h : X.no = st.no.set a d) (i : Nat) (hi : i ≠ a) : X.no[i]? = st.no[i]? := by rw [h, List.getElem?_set_ne (Ne.symm hi)]
theorem one_sec2 {st X : St} {a : Nat} {d : List UInt8} (h : X.no = st.no.set a d) (ha : a < st.no.length) : X.no[a]? = some d := by rw [h, List.getElem?_set_self ha]
set_option maxHeartbeats 1000000 in
/-- All is laid anew; or there is no room; or the power goes. -/
theorem KL.anew (h : KL n st js ks) (hn : 10 ≤ n) (hn2 : n ≤ 82) {B : Nat} (hB : B < 4294967296) (hgB : ks.gen + 1 ≤ B) :
    (anewR st js ks = ⟨st, js, ks, 4⟩ ∧ roomI st 0 < (allB ks.kv).size) ∨
    (((allB ks.kv).size : Int) ≤ roomI st 0 ∧ (anewR st js ks).er = 0 ∧ (anewR st js ks).ks = { ks with gen := ks.gen + 1 } ∧ KL n (anewR st js ks).st (anewR st js ks).js (anewR st js ks).ks ∧ (anewR st js ks).js.en = pN n (ks.gen + 1) + needN (allB ks.kv).size ∧ (st.fu < 0 → (anewR st js ks).st.fu = st.fu)) ∨
    ((anewR st js ks).er = 12 ∧ (anewR st js ks).ks = ks.die ∧ 0 ≤ st.fu ∧ ∀ K, KSay n B (crashS (anewR st js ks).st K) ks.kv) := by
  have hg : ks.gen + 1 < 4294967296 := by omega
  by_cases hr : roomI st 0 < ((allB ks.kv).size : Int)
  · exact .inl ⟨by unfold anewR; rw [if_pos hr], hr⟩
  · right
    have hr2 : ((allB ks.kv).size : Int) ≤ roomI st 0 := by omega
    have hnx : nxt ks.gen = ks.gen + 1 := by unfold nxt; omega
    have hlen := h.len
    obtain ⟨p1, p2, p3⟩ := pN_le n (ks.gen + 1) hn
    obtain ⟨q1, q2, q3⟩ := pN_le n ks.gen hn
    have hap := pN_apart n ks.gen
    have hpl : plcN st (ks.gen + 1) = pN n (ks.gen + 1) := by rw [← hlen]; rfl
    have hhf : halfN st = hN n := by rw [← hlen]; rfl
    have hpar : 1 - (ks.gen + 1) % 2 = ks.gen % 2 ∧ (ks.gen + 1) % 2 = 1 - ks.gen % 2 := by omega
    have hC1 : Cont [allB ks.kv] ks.kv := h.cont.all (by have := h.few hn2; omega) (all_room hr2)
    have hlf : ((allB ks.kv).size : Int) ≤ leftI (JSt.new (pN n (ks.gen + 1)) (hN n) (ks.gen + 1)) := by
      unfold roomI at hr2
      rw [hhf] at hr2
      unfold leftI JSt.new
      simp only
      omega
    have eA : anewR st js ks = anew1 st js ks (allB ks.kv) (ks.gen + 1) := by unfold anewR; rw [if_neg hr, hnx]
    rw [eA]
    unfold anew1
    rw [hpl, hhf]
    obtain ⟨P, hP⟩ : ∃ P, pN n (ks.gen + 1) = P := ⟨_, rfl⟩
    obtain ⟨G, hG⟩ : ∃ G, ks.gen + 1 = G := ⟨_, rfl⟩
    rw [hP] at hap p1 p2 hlf ⊢
    rw [hG] at hg hpar hP hlf ⊢
    obtain ⟨s, hs⟩ : ∃ s, allB ks.kv = s := ⟨_, rfl⟩
    rw [hs] at hlf hC1 hr2 ⊢
    have hold : ∀ i, (i < 2 ∨ pN n ks.gen ≤ i ∧ i < pN n ks.gen + hN n) → (i < P ∨ P + hN n ≤ i) := fun i hi => by omega
    change _ ∨ _
    have e1 : clearOps P = [some (P, ⟨#[]⟩), none] := rfl
    rw [e1]
    -- what a plate says on which the old half and the old root stand
    have hsay : ∀ Y : St, Rst Y → Y.no.length = st.no.length → (∀ i, (i < P ∨ P + hN n ≤ i) → i ≠ 1 - ks.gen % 2 → Y.no[i]? = st.no[i]?) → (∃ o, Y.no[1 - ks.gen % 2]? = some o ∧ Oth ks.gen o) → KSay n B Y ks.kv := fun Y hY hl ha ho =>
      ⟨ks.gen, js.recs, h.kx.move hY hl ((ha _ (hold _ (by omega)) (by omega)).trans h.rt) ho (fun i h1 h2 => ha i (hold i (.inr ⟨h1, h2⟩)) (by omega)), h.cont, by omega⟩
    have hot : ∀ Y : St, (∀ i, (i < P ∨ P + hN n ≤ i) → Y.no[i]? = st.no[i]?) → ∃ o, Y.no[1 - ks.gen % 2]? = some o ∧ Oth ks.gen o := fun Y ha => ⟨zer, (ha _ (hold _ (by omega))).trans h.oz, .inl zer_nr⟩
    rcases one_put h.jn.hf.rst (a := P) (by omega) (s := ⟨#[]⟩) (by decide) with ⟨a1, a2, a3, a4⟩ | ⟨a1, a2, a3⟩
    · rw [if_pos a1]
      obtain ⟨S1, hS1⟩ : ∃ S, (runOps st [some (P, ⟨#[]⟩), none]).1 = S := ⟨_, rfl⟩
      rw [hS1] at a2 a3 a4 ⊢
      clear hS1 a1
      have l1 : S1.no.length = st.no.length := by rw [a3, List.length_set]
      have b1 : ∀ i, (i < P ∨ P + hN n ≤ i) → S1.no[i]? = st.no[i]? := fun i hi => one_sec a3 i (by omega)
      have z1 : S1.no[P]? = some zer := one_sec2 a3 (by omega)
      have hJ1 : Jn S1 (JSt.new P (hN n) G) P := ⟨⟨a2.d64, a2.su, a2.lo, a2.off, by show P + hN n ≤ _; omega, by show P < P + hN n; omega, trivial, by
        show NH (S1.no.getD (enOf P []) [])
        rw [enOf_nil, List.getD_eq_getElem?_getD, z1]; exact zer_nh⟩, by show P = enOf P []; rw [enOf_nil], z1, rfl⟩
      unfold anew2
      obtain ⟨f1, f2⟩ := app_frame hJ1 hlf
      have f1' : ∀ i, (i < P ∨ P + hN n ≤ i) → (appS S1 (JSt.new P (hN n) G) s).no[i]? = st.no[i]? := fun i hi => (f1 i hi).trans (b1 i hi)
      rcases hJ1.appF s with ⟨c1, _⟩ | ⟨_, c1, c2, c3, c4⟩ | ⟨_, c1, c2, _⟩
      · exact absurd c1 (by omega)
      · rw [if_pos c1]
        have l2 : (appS S1 (JSt.new P (hN n) G) s).no.length = st.no.length := (appS_len s).trans l1
        have c4' : st.fu < 0 → (appS S1 (JSt.new P (hN n) G) s).fu = st.fu := fun hf => (c4 (by rw [a4 hf]; exact hf)).trans (a4 hf)
        rw [c3]
        obtain ⟨S2, hS2⟩ : ∃ S, appS S1 (JSt.new P (hN n) G) s = S := ⟨_, rfl⟩
        rw [hS2] at c2 f1' l2 c4' ⊢
        clear hS2 c1 c3 c4 f1 f2 a4 z1 b1
        have hj : moreJ (JSt.new P (hN n) G) s = { lim := P + hN n, gen := G, recs := [s], en := P + needN s.size, dead := false } := by simp [moreJ, JSt.new]
        rw [hj] at c2 ⊢
        clear hj hJ1 a2 a3 l1 S1
        have hz2 : S2.no[G % 2]? = some zer := by rw [hpar.2]; exact (f1' _ (hold _ (by omega))).trans h.oz
        have hrt2 : S2.no[1 - G % 2]? = some (rootL ks.gen) := by rw [hpar.1]; exact (f1' _ (hold _ (by omega))).trans h.rt
        have hj2 : ∀ Y : St, Rst Y → Y.no.length = st.no.length → (∀ i, 2 ≤ i → Y.no[i]? = S2.no[i]?) → Hf Y (P + hN n) G P [s] := fun Y hY hl ha => c2.hf.move hY (hl.trans l2.symm) (fun i h1 _ => ha i (by omega))
        unfold anew3
        have e3 : sureOps (rootB G) [G % 2] = [some (G % 2, rootB G), none] := rfl
        rw [e3]
        rcases one_put c2.hf.rst (a := G % 2) (by omega) (s := rootB G) (by rw [rootB_size]; omega) with ⟨d1, d2, d3, d4⟩ | ⟨d1, d2, d3⟩
        · rw [if_pos d1]
          obtain ⟨S3, hS3⟩ : ∃ S, (runOps S2 [some (G % 2, rootB G), none]).1 = S := ⟨_, rfl⟩
          rw [hS3] at d2 d3 d4 ⊢
          clear hS3 d1
          rw [pad_root] at d3
          have l3 : S3.no.length = st.no.length := by rw [d3, List.length_set, l2]
          have r3 : S3.no[G % 2]? = some (rootL G) := one_sec2 d3 (by omega)
          have o3 : S3.no[1 - G % 2]? = some (rootL ks.gen) := (one_sec d3 _ (by omega)).trans hrt2
          have k3 : ∀ i, 2 ≤ i → S3.no[i]? = S2.no[i]? := fun i hi => one_sec d3 i (by omega)
          unfold anew4
          have e4 : sureOps emB [1 - G % 2] = [some (1 - G % 2, emB), none] := rfl
          rw [e4]
          rcases one_put d2 (a := 1 - G % 2) (by omega) (s := emB) (by decide) with ⟨g1, g2, g3, g4⟩ | ⟨g1, g2, g3⟩
          · left
            rw [if_pos g1]
            obtain ⟨S4, hS4⟩ : ∃ S, (runOps S3 [some (1 - G % 2, emB), none]).1 = S := ⟨_, rfl⟩
            rw [hS4] at g2 g3 g4 ⊢
            clear hS4 g1
            have l4 : S4.no.length = st.no.length := by rw [g3, List.length_set, l3]
            have k4 : ∀ i, 2 ≤ i → S4.no[i]? = S2.no[i]? := fun i hi => (one_sec g3 i (by omega)).trans (k3 i hi)
            refine ⟨hr2, rfl, rfl, ⟨l4.trans hlen, ?_, ?_, rfl, (one_sec g3 (G % 2) (by omega)).trans r3, one_sec2 g3 (by omega), hg, h.kd, hC1⟩, rfl, fun hf => ?_⟩
            · show Jn S4 _ (pN n G)
              rw [hP]
              exact c2.move g2 (l4.trans l2.symm) (fun i h1 _ => k4 i (by omega))
            · show P + hN n = pN n G + hN n
              rw [hP]
            · have h2 := c4' hf
              have h3 := d4 (by omega)
              rw [g4 (by omega), h3, h2]
          · right
            rw [if_neg (by rw [g1]; decide)]
            refine ⟨g1, rfl, ?_, fun K => ?_⟩
            · by_cases hf : st.fu < 0
              · have h2 := c4' hf
                have h3 := d4 (by omega)
                omega
              · omega
            · obtain ⟨x1, x2⟩ := g3 K
              refine ⟨G, [s], ?_, hC1, by omega⟩
              rcases x2 with x2 | ⟨k, hk, x2⟩
              · exact ⟨by rw [x2]; omega, by rw [hP]; exact hj2 _ x1 (by rw [x2]; exact l3) (fun i hi => by rw [x2]; exact k3 i hi), by rw [x2]; exact r3, ⟨_, by rw [x2]; exact o3, .inr ⟨ks.gen, by omega, rfl⟩⟩, hg⟩
              · have hgd : S3.no.getD (1 - G % 2) [] = rootL ks.gen := by rw [List.getD_eq_getElem?_getD, o3]; rfl
                rw [hgd, show pad emB = zer from rfl] at x2
                refine ⟨by rw [x2, List.length_set]; omega, by rw [hP]; exact hj2 _ x1 (by rw [x2, List.length_set]; exact l3) (fun i hi => (one_sec x2 i (by omega)).trans (k3 i hi)), (one_sec x2 _ (by omega)).trans r3, ⟨_, one_sec2 x2 (by omega), ?_⟩, hg⟩
                rcases tear_clear (rootL_len ks.gen) hk with e | e
                · rw [e]; exact .inr ⟨ks.gen, by omega, rfl⟩
                · exact .inl e
        · right
          rw [if_neg (by rw [d1]; decide)]
          refine ⟨d1, rfl, ?_, fun K => ?_⟩
          · by_cases hf : st.fu < 0
            · have h2 := c4' hf
              omega
            · omega
          · obtain ⟨x1, x2⟩ := d3 K
            rcases x2 with x2 | ⟨k, hk, x2⟩
            · exact hsay _ x1 (by rw [x2]; exact l2) (fun i hi _ => by rw [x2]; exact f1' i hi) (hot _ (fun i hi => by rw [x2]; exact f1' i hi))
            · have hgd : S2.no.getD (G % 2) [] = zer := by rw [List.getD_eq_getElem?_getD, hz2]; rfl
              rw [hgd, pad_root] at x2
              have hl5 : (crashS (runOps S2 [some (G % 2, rootB G), none]).1 K).no.length = st.no.length := by rw [x2, List.length_set]; exact l2
              rcases tear_root (rootL_len G) hk with e | e
              · rw [e] at x2
                exact ⟨G, [s], ⟨hl5.trans hlen, by rw [hP]; exact hj2 _ x1 hl5 (fun i hi => one_sec x2 i (by omega)), one_sec2 x2 (by omega), ⟨_, (one_sec x2 _ (by omega)).trans hrt2, .inr ⟨ks.gen, by omega, rfl⟩⟩, hg⟩, hC1, by omega⟩
              · exact hsay _ x1 hl5 (fun i hi h5 => (one_sec x2 i (by omega)).trans (f1' i hi)) ⟨_, by rw [← hpar.2]; exact one_sec2 x2 (by omega), .inl e⟩
      · right
        rw [if_neg (by rw [c1]; decide)]
        refine ⟨c1, rfl, ?_, fun K => ?_⟩
        · by_cases hf : st.fu < 0
          · have h2 := a4 hf
            omega
          · omega
        · obtain ⟨x1, x2⟩ := f2 K
          have x3 : ∀ i, (i < P ∨ P + hN n ≤ i) → (crashS (appS S1 (JSt.new P (hN n) G) s) K).no[i]? = st.no[i]? := fun i hi => (x2 i hi).trans (b1 i hi)
          exact hsay _ x1 (by rw [crashS_len, appS_len, l1]) (fun i hi _ => x3 i hi) (hot _ x3)
    · right
      rw [if_neg (by rw [a1]; decide)]
      refine ⟨a1, rfl, a2, fun K => ?_⟩
      obtain ⟨x1, x2⟩ := a3 K
      have hag : ∀ i, (i < P ∨ P + hN n ≤ i) → (crashS (runOps st [some (P, ⟨#[]⟩), none]).1 K).no[i]? = st.no[i]? := fun i hi => by
        rcases x2 with x2 | ⟨k, _, x2⟩
        · rw [x2]
        · exact one_sec x2 i (by omega)
      exact hsay _ x1 (by rcases x2 with x2 | ⟨k, _, x2⟩ <;> rw [x2]; exact List.length_set) (fun i hi _ => hag i hi) (hot _ hag)
/-- A Compact. -/
theorem KL.comp (h : KL n st js ks) (hn : 10 ≤ n) (hn2 : n ≤ 82) {B : Nat} (hB : B < 4294967296) (hgB : ks.gen + 1 ≤ B) :
    (compR st js ks = ⟨st, js, ks, 4⟩) ∨
    ((compR st js ks).er = 0 ∧ (compR st js ks).ks = { ks with gen := ks.gen + 1 } ∧ KL n (compR st js ks).st (compR st js ks).js (compR st js ks).ks ∧ (st.fu < 0 → (compR st js ks).st.fu = st.fu)) ∨
    ((compR st js ks).er = 12 ∧ (compR st js ks).ks = ks.die ∧ 0 ≤ st.fu ∧ ∀ K, KSay n B (crashS (compR st js ks).st K) ks.kv) := by
  have e : compR st js ks = anewR st js ks := by unfold compR; rw [h.kd]; simp
  rw [e]
  rcases h.anew hn hn2 hB hgB with ⟨h1, _⟩ | ⟨_, h1, h2, h3, _, h4⟩ | h1
  · exact .inl h1
  · exact .inr (.inl ⟨h1, h2, h3, h4⟩)
  · exact .inr (.inr h1)
/-- An Append of writes. -/
theorem KL.fin (h : KL n st js ks) (hn : 10 ≤ n) {B : Nat} (hgB : ks.gen ≤ B) {l : List KW} (hb : l.any (fun c => !rightW c) = false) (hl : l.length ≤ 1000) (hr : ((recB l).size : Int) ≤ leftI js) :
    ((comF st js ks l).er = 0 ∧ (comF st js ks l).ks = ks.doing l ∧ KL n (comF st js ks l).st (comF st js ks l).js (comF st js ks l).ks ∧ (st.fu < 0 → (comF st js ks l).st.fu = st.fu)) ∨
    ((comF st js ks l).er = 12 ∧ (comF st js ks l).ks = ks.die ∧ 0 ≤ st.fu ∧ ∀ K, KSay n B (crashS (comF st js ks l).st K) ks.kv ∨ KSay n B (crashS (comF st js ks l).st K) (l.foldl kdo ks.kv)) := by
  obtain ⟨q1, q2, q3⟩ := pN_le n ks.gen hn
  have hen : pN n ks.gen ≤ js.en := by rw [h.jn.en]; have := enOf_ge js.recs (pN n ks.gen); omega
  have hC : Cont (js.recs ++ [recB l]) (l.foldl kdo ks.kv) := h.cont.snoc hb hl (room_of hr).1
  obtain ⟨f1, f2⟩ := app_frame h.jn hr
  have hlim := h.lim
  have hlen : (appS st js (recB l)).no.length = n := (appS_len _).trans h.len
  unfold comF
  rcases h.jn.appF (recB l) with ⟨c1, _⟩ | ⟨_, c1, c2, c3, c4⟩ | ⟨_, c1, c2, c3⟩
  · exact absurd c1 (by omega)
  · left
    rw [if_pos c1, c3]
    refine ⟨rfl, rfl, ⟨hlen, c2, h.lim, h.jg, (f1 _ (by show ks.gen % 2 < js.en ∨ _; omega)).trans h.rt, (f1 _ (by show 1 - ks.gen % 2 < js.en ∨ _; omega)).trans h.oz, h.gn, h.kd, hC⟩, c4⟩
  · right
    rw [if_neg (by rw [c1]; decide)]
    refine ⟨c1, rfl, c2, fun K => ?_⟩
    have hm := c3 K
    rw [hlim, h.jg] at hm
    obtain ⟨x1, x2⟩ := f2 K
    have hKX : ∀ recs, Hf (crashS (appS st js (recB l)) K) (pN n ks.gen + hN n) ks.gen (pN n ks.gen) recs → KX n (crashS (appS st js (recB l)) K) ks.gen recs := fun recs hh =>
      ⟨by rw [crashS_len, hlen], hh, (x2 _ (by omega)).trans h.rt, ⟨zer, (x2 _ (by omega)).trans h.oz, .inl zer_nr⟩, h.gn⟩
    rcases hm with hm | hm
    · exact .inl ⟨_, _, hKX _ hm, h.cont, hgB⟩
    · exact .inr ⟨_, _, hKX _ hm, hC, hgB⟩
/-- A Commit. -/
theorem KL.com (h : KL n st js ks) (hn : 10 ≤ n) (hn2 : n ≤ 82) {B : Nat} (hB : B < 4294967296) (hgB : ks.gen + 1 ≤ B) (l : List KW) :
    (∃ er, (er = 3 ∨ er = 4) ∧ comR st js ks l = ⟨st, js, ks, er⟩) ∨
    ((comR st js ks l).er = 0 ∧ (comR st js ks l).ks.kv = l.foldl kdo ks.kv ∧ (comR st js ks l).ks.cnt = ks.cnt + l.length ∧ KL n (comR st js ks l).st (comR st js ks l).js (comR st js ks l).ks ∧ (comR st js ks l).ks.gen ≤ ks.gen + 1 ∧ (st.fu < 0 → (comR st js ks l).st.fu = st.fu)) ∨
    ((comR st js ks l).er = 12 ∧ 0 ≤ st.fu ∧ (comR st js ks l).ks.dead = true ∧ ∀ K, KSay n B (crashS (comR st js ks l).st K) ks.kv ∨ KSay n B (crashS (comR st js ks l).st K) (l.foldl kdo ks.kv)) := by
  unfold comR
  rw [h.kd]
  simp only [Bool.false_eq_true, if_false]
  by_cases hb : badC l = true
  · rw [if_pos hb]; exact .inl ⟨3, .inl rfl, rfl⟩
  · rw [if_neg hb]
    have hb2 : l.any (fun c => !rightW c) = false ∧ l.length ≤ 1000 := by
      unfold badC at hb
      simp only [Bool.or_eq_true, not_or, decide_eq_true_eq, Bool.not_eq_true] at hb
      exact ⟨hb.2, by omega⟩
    by_cases hl : leftI js < ((recB l).size : Int)
    · rw [if_pos hl]
      by_cases hr : roomI st 0 < ((allB ks.kv).size : Int) ∨ roomI st (needI (allB ks.kv).size) < ((recB l).size : Int)
      · rw [if_pos hr]; exact .inl ⟨4, .inr rfl, rfl⟩
      · rw [if_neg hr]
        have hr1 : ¬ roomI st 0 < ((allB ks.kv).size : Int) := fun hh => hr (.inl hh)
        have hr2 : ¬ roomI st (needI (allB ks.kv).size) < ((recB l).size : Int) := fun hh => hr (.inr hh)
        right
        unfold comN
        rcases h.anew hn hn2 hB hgB with ⟨_, h1⟩ | ⟨_, h1, h2, h3, h4, h5⟩ | ⟨h1, h2, h3, h4⟩
        · exact absurd h1 hr1
        · rw [if_pos h1]
          have hsz : (allB ks.kv).size ≤ 1048576 := by unfold roomI at hr1; omega
          have hlim := h3.lim
          rw [h2] at hlim h3 ⊢
          simp only at hlim
          have hhf : halfN st = hN n := by rw [← h.len]; rfl
          have hfit : ((recB l).size : Int) ≤ leftI (anewR st js ks).js := by
            rw [needI_nat hsz] at hr2
            unfold roomI at hr2
            rw [hhf] at hr2
            unfold leftI
            rw [hlim, h4]
            omega
          rcases h3.fin hn (B := B) hgB hb2.1 hb2.2 hfit with ⟨f1, f2, f3, f4⟩ | ⟨f1, f2, f3, f4⟩
          · exact .inl ⟨f1, by rw [f2]; rfl, by rw [f2]; rfl, f3, by rw [f2]; exact Nat.le_refl _, fun hf => by have := h5 hf; rw [f4 (by omega), this]⟩
          · refine .inr ⟨f1, ?_, by rw [f2]; rfl, f4⟩
            by_cases hf : st.fu < 0
            · have := h5 hf; omega
            · omega
        · right
          rw [if_neg (by rw [h1]; decide)]
          exact ⟨h1, h3, by rw [h2]; rfl, fun K => .inl (h4 K)⟩
    · rw [if_neg hl]
      right
      rcases h.fin hn (B := B) (by omega) hb2.1 hb2.2 (by omega) with ⟨f1, f2, f3, f4⟩ | ⟨f1, f2, f3, f4⟩
      · exact .inl ⟨f1, by rw [f2]; rfl, by rw [f2]; rfl, f3, by rw [f2]; exact Nat.le_succ _, f4⟩
      · exact .inr ⟨f1, f3, by rw [f2]; rfl, f4⟩
/-- A keep that was opened lives: with power its commits are not answered Down. -/
theorem KL.com_up (h : KL n st js ks) (hn : 10 ≤ n) (hn2 : n ≤ 82) (hf : st.fu = -1) (hg : ks.gen ≤ 1000) (l : List KW) : (comR st js ks l).er ≠ 12 := by
  rcases h.com hn hn2 (B := 2000) (by omega) (by omega) l with ⟨er, he, h1⟩ | ⟨h1, _⟩ | ⟨_, h2, _⟩
  · rw [h1]; simp only; omega
  · omega
  · omega
end

/-! ### Opening -/
section
variable {n g : Nat} {st : St} {recs : List ByteArray} {kv : List KV}
theorem openR_in {a sz gen : Nat} {js : JSt} (h : Hf st (a + sz) gen a recs) (hj : js = JSt.new a sz gen) : ∃ l, openR st js = runOps st l ∧ (∀ o ∈ l, FineStep st.no.length o) ∧ ∀ o ∈ l, StepIn (fun i => a ≤ i ∧ i < a + sz) o := by
  subst hj
  have e : openR st (JSt.new a sz gen) = runOps st (openOps st.no (enOf a recs)) := by
    unfold openR; rw [h.found, h.off]; rfl
  have h1 := h.enl
  have h2 := enOf_ge recs a
  have h3 := h.bd
  refine ⟨_, e, ?_, ?_⟩
  · unfold openOps
    split
    · simp
    · exact clear_fine (by omega)
  · unfold openOps
    split
    · simp
    · intro o ho
      unfold clearOps at ho
      simp at ho
      rcases ho with rfl | rfl
      · exact ⟨by omega, h1⟩
      · trivial
/-- The journal is opened, the other root's sector being clear. -/
theorem KX.open2 (h : KX n st g recs) (hn : 10 ≤ n) (hz : st.no[1 - g % 2]? = some zer) (hc : Cont recs kv) (ks : KSt) (hg : ks.gen = g) (hk : ks.kv = kv) (hd : ks.dead = false) :
    ((openR st (JSt.new (pN n g) (hN n) g)).2 = 0 ∧ (openJ st (JSt.new (pN n g) (hN n) g)).recs = recs ∧ KL n (openR st (JSt.new (pN n g) (hN n) g)).1 (openJ st (JSt.new (pN n g) (hN n) g)) ks) ∨
    ((openR st (JSt.new (pN n g) (hN n) g)).2 = 12 ∧ 0 ≤ st.fu ∧ ∀ K, KX n (crashS (openR st (JSt.new (pN n g) (hN n) g)).1 K) g recs) := by
  subst hg hk
  obtain ⟨q1, q2, q3⟩ := pN_le n ks.gen hn
  obtain ⟨l, hl1, hl2, hl3⟩ := openR_in h.hf rfl
  obtain ⟨k1, k2⟩ := run_frame h.hf.rst hl2 hl3
  have hlen : (runOps st l).1.no.length = n := (runOps_len _ _).trans h.len
  rw [← hl1] at k1 k2 hlen
  have hjs := h.hf.js
  rcases h.hf.opened with ⟨h1, h2, h3, _⟩ | ⟨h1, h2, _, h3⟩
  · left
    refine ⟨h1, by rw [hjs], ?_⟩
    rw [hjs] at h2 ⊢
    exact ⟨hlen, h2, rfl, rfl, (k1 _ (by omega)).trans h.rt, (k1 _ (by omega)).trans hz, h.gn, hd, hc⟩
  · right
    refine ⟨h1, h2, fun K => ?_⟩
    obtain ⟨x1, x2⟩ := k2 K
    exact ⟨by rw [crashS_len, hlen], h3 K, (x2 _ (by omega)).trans h.rt, ⟨zer, (x2 _ (by omega)).trans hz, .inl zer_nr⟩, h.gn⟩
/-- An Open. -/
theorem KX.open (h : KX n st g recs) (hn : 10 ≤ n) (ls : List (List KW)) (h1 : recs = ls.map recB) (hc : Cont recs (ls.flatten.foldl kdo [])) :
    ((openQ st).2 = 0 ∧ (openJs st).recs = ls.map recB ∧ KL n (openQ st).1 (openJs st) (openK st ls) ∧ (openK st ls).gen = g) ∨ ((openQ st).2 = 12 ∧ 0 ≤ st.fu ∧ ∀ K, KX n (crashS (openQ st).1 K) g recs) := by
  obtain ⟨o, ho, hO⟩ := h.ot
  have hf2 := find_root h.gn h.rt ho hO
  have hoff := h.hf.off
  have hG : findG st = g := by unfold findG; rw [hoff, hf2]; rfl
  obtain ⟨q1, q2, q3⟩ := pN_le n g hn
  have hlen := h.len
  have ho64 : o.length = 64 := h.hf.d64 o (List.mem_of_getElem? ho)
  have hN1 : openN st = JSt.new (pN n g) (hN n) g := by
    unfold openN; rw [hG]
    have e1 : plcN st g = pN n g := by rw [← hlen]; rfl
    have e2 : halfN st = hN n := by rw [← hlen]; rfl
    rw [e1, e2]
  subst h1
  unfold openQ openJs
  rw [hN1]
  by_cases hz : o.all (· == 0) = true
  · have e1 : findE st = 0 := by unfold findE; rw [hoff, hf2]; simp only [Bool.false_eq_true, if_false, if_true]; rw [sec_at ho, if_pos hz]
    have e2 : findS st = st := by unfold findS; rw [hoff, hf2]; simp only [Bool.false_eq_true, if_false, if_true]; rw [sec_at ho, if_pos hz]
    rw [e1, e2, if_pos rfl]
    exact (h.open2 hn (by rw [ho, all_zer ho64 hz]) hc (openK st ls) hG rfl rfl).imp (fun hh => ⟨hh.1, hh.2.1, hh.2.2, hG⟩) id
  · have e1 : findE st = (runOps st [some (1 - g % 2, emB), none]).2 := by unfold findE; rw [hoff, hf2]; simp only [Bool.false_eq_true, if_false, if_true]; rw [sec_at ho, if_neg hz]; rfl
    have e2 : findS st = (runOps st [some (1 - g % 2, emB), none]).1 := by unfold findS; rw [hoff, hf2]; simp only [Bool.false_eq_true, if_false, if_true]; rw [sec_at ho, if_neg hz]; rfl
    rw [e1, e2]
    rcases one_put h.hf.rst (a := 1 - g % 2) (by omega) (s := emB) (by decide) with ⟨a1, a2, a3, a4⟩ | ⟨a1, a2, a3⟩
    · rw [if_pos a1]
      obtain ⟨S1, hS1⟩ : ∃ S, (runOps st [some (1 - g % 2, emB), none]).1 = S := ⟨_, rfl⟩
      rw [hS1] at a2 a3 a4 ⊢
      have hz1 : S1.no[1 - g % 2]? = some zer := one_sec2 a3 (by omega)
      have hX1 : KX n S1 g (ls.map recB) := h.move a2 (by rw [a3, List.length_set]) ((one_sec a3 _ (by omega)).trans h.rt) ⟨zer, hz1, .inl zer_nr⟩ (fun i h1 _ => one_sec a3 i (by omega))
      rcases hX1.open2 hn hz1 hc (openK st ls) hG rfl rfl with hh | ⟨b1, b2, b3⟩
      · exact .inl ⟨hh.1, hh.2.1, hh.2.2, hG⟩
      · refine .inr ⟨b1, ?_, b3⟩
        by_cases hf : st.fu < 0
        · have := a4 hf; omega
        · omega
    · right
      rw [if_neg (by rw [a1]; decide)]
      refine ⟨a1, a2, fun K => ?_⟩
      obtain ⟨x1, x2⟩ := a3 K
      rcases x2 with x2 | ⟨k, hk, x2⟩
      · exact h.move x1 (by rw [x2]) (by rw [x2]; exact h.rt) (by rw [x2]; exact h.ot) (fun i _ _ => by rw [x2])
      · have hgd : st.no.getD (1 - g % 2) [] = o := by rw [List.getD_eq_getElem?_getD, ho]; rfl
        rw [hgd, show pad emB = zer from rfl] at x2
        refine h.move x1 (by rw [x2, List.length_set]) ((one_sec x2 _ (by omega)).trans h.rt) ⟨_, one_sec2 x2 (by omega), ?_⟩ (fun i h1 _ => one_sec x2 i (by omega))
        rcases tear_clear ho64 hk with e | e
        · rw [e]; exact hO
        · exact .inl e
end

/-! ### How much may be loose -/
section
variable {st : St} {js : JSt} {ks : KSt}
theorem app_lo (s : ByteArray) : (appS st js s).lo.length ≤ st.lo.length + 20000 := by
  unfold appS
  split
  · omega
  · split
    · omega
    · rename_i h1 h2
      have h3 := room_of (show (s.size : Int) ≤ leftI js by omega)
      have h := runOps_lo (appOps js s) st
      have : (appOps js s).length = needN s.size + 3 := by rw [appOps_eq, List.length_append, lays_len]; rfl
      unfold needN at this
      omega
theorem anew_lo : (anewR st js ks).st.lo.length ≤ st.lo.length + 20020 := by
  unfold anewR
  split
  · show st.lo.length ≤ _; omega
  · unfold anew1
    have h1 := runOps_lo (clearOps (plcN st (nxt ks.gen))) st
    have e1 : (clearOps (plcN st (nxt ks.gen))).length = 2 := rfl
    split
    · unfold anew2
      have h2 := app_lo (st := (runOps st (clearOps (plcN st (nxt ks.gen)))).1) (js := JSt.new (plcN st (nxt ks.gen)) (halfN st) (nxt ks.gen)) (allB ks.kv)
      obtain ⟨S, hS⟩ : ∃ S, appS (runOps st (clearOps (plcN st (nxt ks.gen)))).1 (JSt.new (plcN st (nxt ks.gen)) (halfN st) (nxt ks.gen)) (allB ks.kv) = S := ⟨_, rfl⟩
      rw [hS] at h2 ⊢
      split
      · unfold anew3
        have h3 := runOps_lo (sureOps (rootB (nxt ks.gen)) [nxt ks.gen % 2]) S
        have e3 : (sureOps (rootB (nxt ks.gen)) [nxt ks.gen % 2]).length = 2 := rfl
        split
        · unfold anew4
          have h4 := runOps_lo (sureOps emB [1 - nxt ks.gen % 2]) (runOps S (sureOps (rootB (nxt ks.gen)) [nxt ks.gen % 2])).1
          have e4 : (sureOps emB [1 - nxt ks.gen % 2]).length = 2 := rfl
          split
          · simp only; omega
          · simp only; omega
        · simp only; omega
      · simp only; omega
    · simp only; omega
theorem comp_lo : (compR st js ks).st.lo.length ≤ st.lo.length + 20020 := by
  unfold compR
  split
  · show st.lo.length ≤ _; omega
  · exact anew_lo
theorem comF_lo (l : List KW) : (comF st js ks l).st.lo.length ≤ st.lo.length + 20000 := by
  unfold comF
  have := app_lo (st := st) (js := js) (recB l)
  split <;> (simp only; omega)
theorem com_lo (l : List KW) : (comR st js ks l).st.lo.length ≤ st.lo.length + 40020 := by
  unfold comR
  split
  · show st.lo.length ≤ _; omega
  · split
    · show st.lo.length ≤ _; omega
    · split
      · split
        · show st.lo.length ≤ _; omega
        · unfold comN
          have h1 := anew_lo (st := st) (js := js) (ks := ks)
          split
          · have := comF_lo (st := (anewR st js ks).st) (js := (anewR st js ks).js) (ks := (anewR st js ks).ks) l
            omega
          · omega
      · have := comF_lo (st := st) (js := js) (ks := ks) l
        omega
theorem openQ_lo : (openQ st).1.lo.length ≤ st.lo.length + 4 := by
  have h1 := findS_lo st
  unfold openQ
  split
  · unfold openR
    split
    · simp only; omega
    · have h := runOps_lo (openOps (findS st).no (openL (findS st) (openN st)).2) (findS st)
      have : (openOps (findS st).no (openL (findS st) (openN st)).2).length ≤ 2 := by unfold openOps clearOps; split <;> simp
      omega
  · simp only; omega
end
end Go.Proofs.YtdebfnlnpfienaaGreatDoor
