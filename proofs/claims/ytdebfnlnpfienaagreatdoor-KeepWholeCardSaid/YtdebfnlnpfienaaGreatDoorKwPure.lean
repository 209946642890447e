/- A keep on its plate, wherever the power goes: plain (no program in sight). -/
import Derived.Test.YtdebfnlnpfienaaGreatDoorKeInv
import Derived.Test.YtdebfnlnpfienaaGreatDoorKe21
namespace Go.Proofs.YtdebfnlnpfienaaGreatDoor
open Go.RowKit Lift
set_option linter.unusedSimpArgs false
set_option linter.unusedVariables false

/-! ### Roots -/
def NR (d : List UInt8) : Prop := d.getD 0 0 ≠ 82 ∨ d.getD 63 0 ≠ 37
theorem zer_nr : NR zer := .inl (by decide)
theorem rootL_ends (g : Nat) : (rootL g).getD 0 0 = 82 ∧ (rootL g).getD 63 0 = 37 := by simp [rootL, fourL]
theorem pad_root (g : Nat) : pad (rootB g) = rootL g := by
  unfold pad
  rw [rootB_size]; simp [rootB]
theorem tear_root {d : List UInt8} (hd : d.length = 64) {k : Nat} (hk : k ≤ 128) : tear zer d k = d ∨ NR (tear zer d k) := by
  unfold tear
  split
  · rename_i h
    by_cases h64 : k = 64
    · subst h64
      left
      rw [List.take_of_length_le (by omega), List.drop_of_length_le (by simp [zer_len]), List.append_nil]
    · right; right
      have : (List.take k d ++ List.drop k zer).getD 63 0 = 0 := by
        rw [List.getD_eq_getElem?_getD, List.getElem?_append_right (by simp; omega), List.getElem?_drop]
        rw [← List.getD_eq_getElem?_getD]
        exact zer_at _
      rw [this]; decide
  · rename_i h
    by_cases h0 : k = 128
    · subst h0; left; simp
    · right; left
      have : (List.take (128 - k) zer ++ List.drop (128 - k) d).getD 0 0 = 0 := by
        rw [List.getD_eq_getElem?_getD, List.getElem?_append_left (by simp [zer_len]; omega), List.getElem?_take, if_pos (by omega), ← List.getD_eq_getElem?_getD]
        exact zer_at _
      rw [this]; decide
theorem tear_clear {d : List UInt8} (hd : d.length = 64) {k : Nat} (hk : k ≤ 128) : tear d zer k = d ∨ NR (tear d zer k) := by
  unfold tear
  split
  · rename_i h
    by_cases h0 : k = 0
    · subst h0; left; simp
    · right; left
      have : (List.take k zer ++ List.drop k d).getD 0 0 = 0 := by
        rw [List.getD_eq_getElem?_getD, List.getElem?_append_left (by simp [zer_len]; omega), List.getElem?_take, if_pos (by omega), ← List.getD_eq_getElem?_getD]
        exact zer_at _
      rw [this]; decide
  · rename_i h
    right; right
    have : (List.take (128 - k) d ++ List.drop (128 - k) zer).getD 63 0 = 0 := by
      rw [List.getD_eq_getElem?_getD, List.getElem?_append_right (by simp; omega), List.getElem?_drop, ← List.getD_eq_getElem?_getD]
      exact zer_at _
    rw [this]; decide
theorem gen4_root {g : Nat} (hg : g < 4294967296) : gen4 (rootL g) = g := by
  simp [gen4, rootL, fourL, u8n_toNat]; omega
theorem says_root {g : Nat} (hg : g < 4294967296) (a : Nat) : saysK (rootL g) a = decide (g % 2 = a) := by
  unfold saysK; rw [gen4_root hg]
  have e : (⟨(rootL g).toArray⟩ : ByteArray) = rootB g := rfl
  rw [decide_eq_true e, Bool.true_and]
theorem says_nr {d : List UInt8} (h : NR d) (a : Nat) : saysK d a = false := by
  unfold saysK
  rw [decide_eq_false, Bool.false_and]
  intro e
  have e2 : d = rootL (gen4 d) := by
    have := congrArg (fun b : ByteArray => b.data.toList) e
    simpa [rootB] using this
  obtain ⟨r1, r2⟩ := rootL_ends (gen4 d)
  rw [← e2] at r1 r2
  rcases h with h | h
  · exact h r1
  · exact h r2
/-- What may stand in the sector of the root that doesn't count. -/
def Oth (g : Nat) (o : List UInt8) : Prop := NR o ∨ ∃ h, h < g ∧ o = rootL h
theorem sec_at {st : St} {i : Nat} {d : List UInt8} (h : st.no[i]? = some d) : secN st i = d := by
  unfold secN; rw [List.getD_eq_getElem?_getD, h]; rfl
theorem find_root {st : St} {g : Nat} (hg : g < 4294967296) (hr : st.no[g % 2]? = some (rootL g)) {o : List UInt8} (ho : st.no[1 - g % 2]? = some o) (hO : Oth g o) : find2 st = (true, g) := by
  rcases (by omega : g % 2 = 0 ∨ g % 2 = 1) with h2 | h2
  · rw [h2] at hr ho
    have e1 : find1 st = (true, g) := by
      unfold find1 findStep; rw [sec_at hr, says_root hg, gen4_root hg, decide_eq_true h2]; rfl
    unfold find2; rw [e1, sec_at ho]
    unfold findStep
    rcases hO with hn | ⟨h, hh, rfl⟩
    · rw [says_nr hn]; rfl
    · rw [gen4_root (by omega)]
      have : ¬ g < h := by omega
      simp [this]
  · rw [h2] at hr ho
    have e1 : find1 st = (false, 0) ∨ ∃ h, h < g ∧ find1 st = (true, h) := by
      unfold find1 findStep; rw [sec_at ho]
      rcases hO with hn | ⟨h, hh, rfl⟩
      · rw [says_nr hn]; exact .inl rfl
      · rw [gen4_root (by omega)]
        by_cases hs : saysK (rootL h) 0 = true
        · rw [hs]; exact .inr ⟨h, hh, rfl⟩
        · rw [Bool.not_eq_true] at hs; rw [hs]; exact .inl rfl
    unfold find2
    rcases e1 with e1 | ⟨h, hh, e1⟩
    · rw [e1, sec_at hr]
      unfold findStep; rw [says_root hg, gen4_root hg, decide_eq_true h2]; rfl
    · rw [e1, sec_at hr]
      unfold findStep; rw [says_root hg, gen4_root hg, decide_eq_true h2]
      simp [hh]

/-! ### Plates at rest; what steps leave alone -/
structure Rst (st : St) : Prop where
  d64 : ∀ d ∈ st.no, d.length = 64
  su : st.su = st.no
  lo : st.lo = []
  off : st.off = false
theorem Hf.rst {st : St} {lim gen a : Nat} {recs : List ByteArray} (h : Hf st lim gen a recs) : Rst st := ⟨h.d64, h.su, h.lo, h.off⟩
theorem Rst.good {st : St} (h : Rst st) : Good st := ⟨by rw [h.su]; exact h.d64, by rw [h.lo]; simp, by rw [h.lo, h.su]; rfl⟩
theorem Rst.wf {st : St} (h : Rst st) (f : Int) : Rst (wf st f false) := ⟨h.d64, h.su, h.lo, rfl⟩
theorem Good.rst {st : St} (h : Good st) (K : List Int) : Rst (crashS st K) := by
  rw [h.crash]
  exact ⟨tearS64 K _ _ _ h.su64 h.lo64, rfl, rfl, rfl⟩
theorem crashS_len (st : St) (keep : List Int) : (crashS st keep).no.length = st.no.length := by
  unfold crashS
  simp only [tearL_len, settL_len]
theorem Rst.crash {st : St} (h : Rst st) (K : List Int) : (crashS st K).no = st.no := by
  rw [h.good.crash]
  show tearL K 0 st.lo st.su = _
  rw [h.lo, h.su]; rfl
theorem Hf.move {st X : St} {lim gen a : Nat} {recs : List ByteArray} (h : Hf st lim gen a recs) (hX : Rst X) (hl : X.no.length = st.no.length) (ha : ∀ i, a ≤ i → i < lim → X.no[i]? = st.no[i]?) : Hf X lim gen a recs := by
  have he := h.enl
  have hg := enOf_ge recs a
  exact ⟨hX.d64, hX.su, hX.lo, hX.off, by rw [hl]; exact h.bd, h.al, chain_agree h.d64 h.bd recs 0 a h.chain (fun i h1 h2 => ha i h1 (by omega)), by
    rw [List.getD_eq_getElem?_getD, ha _ (by omega) he, ← List.getD_eq_getElem?_getD]; exact h.nh⟩
theorem Jn.move {st X : St} {js : JSt} {a : Nat} (h : Jn st js a) (hX : Rst X) (hl : X.no.length = st.no.length) (ha : ∀ i, a ≤ i → i < js.lim → X.no[i]? = st.no[i]?) : Jn X js a := by
  have he := h.hf.enl
  have hg := enOf_ge js.recs a
  exact ⟨h.hf.move hX hl ha, h.en, by rw [h.en, ha _ (by omega) he, ← h.en]; exact h.zero, h.dead⟩
def StepIn (X : Nat → Prop) : Step → Prop
  | some (a, _) => X a
  | none => True
theorem out_effs {X : Nat → Prop} : ∀ {l : List Step} {st : St}, (∀ o ∈ l, StepIn X o) → (∀ x ∈ st.lo, X x.1) → (∀ x ∈ (effs st l).lo, X x.1) ∧ ∀ i, ¬ X i → (effs st l).no[i]? = st.no[i]? ∧ (effs st l).su[i]? = st.su[i]?
  | [], st, _, h => ⟨h, fun _ _ => ⟨rfl, rfl⟩⟩
  | o :: r, st, h, hl => by
    have ho := h o (List.mem_cons_self ..)
    rcases o with _ | ⟨a, s⟩
    · obtain ⟨k1, k2⟩ := out_effs (l := r) (st := eff st none) (fun x hx => h x (List.mem_cons_of_mem _ hx)) (fun x hx => by cases hx)
      refine ⟨k1, fun i hi => ⟨(k2 i hi).1, (k2 i hi).2.trans ?_⟩⟩
      exact settL_out st.no st.lo st.su i (fun x hx e => hi (e ▸ hl x hx))
    · obtain ⟨k1, k2⟩ := out_effs (l := r) (st := eff st (some (a, s))) (fun x hx => h x (List.mem_cons_of_mem _ hx)) (fun x hx => by
        rcases List.mem_append.1 hx with hx | hx
        · exact hl x hx
        · simp at hx; subst hx; exact ho)
      refine ⟨k1, fun i hi => ⟨(k2 i hi).1.trans ?_, (k2 i hi).2⟩⟩
      exact List.getElem?_set_ne (by rintro rfl; exact hi ho)
theorem Rst.crash_out {st : St} (h : Rst st) {X : Nat → Prop} {l : List Step} (hf : ∀ o ∈ l, FineStep st.no.length o) (hi : ∀ o ∈ l, StepIn X o) (K : List Int) :
    Rst (crashS (effs st l) K) ∧ (crashS (effs st l) K).no.length = st.no.length ∧ ∀ i, ¬ X i → (crashS (effs st l) K).no[i]? = st.no[i]? := by
  have hG := h.good.effs hf
  obtain ⟨k1, k2⟩ := out_effs (st := st) hi (by rw [h.lo]; simp)
  refine ⟨hG.rst K, by rw [crashS_len, effs_len], fun i hX => ?_⟩
  rw [hG.crash]
  show (tearL K 0 _ _)[i]? = _
  rw [tearL_out K _ 0 _ i (fun x hx e => hX (e ▸ k1 x hx)), (k2 i hX).2, h.su]
theorem Rst.done {st : St} (h : Rst st) {l : List Step} (hf : ∀ o ∈ l ++ [none], FineStep st.no.length o) (f : Int) : Rst (Go.Proofs.YtdebfnlnpfienaaGreatDoor.wf (effs st (l ++ [none])) f false) := by
  have hG2 : Good (effs st l) := h.good.effs (fun o ho => hf o (List.mem_append_left _ ho))
  have hG : Good (effs st (l ++ [none])) := h.good.effs hf
  have e : effs st (l ++ [none]) = eff (effs st l) none := by rw [effs_append]; rfl
  refine ⟨hG.n64, ?_, ?_, rfl⟩
  · show (effs st (l ++ [none])).su = (effs st (l ++ [none])).no
    rw [e]; exact hG2.settle
  · show (effs st (l ++ [none])).lo = []
    rw [e]; rfl
/-- One sector is put, and made sure. -/
theorem one_put {st : St} (h : Rst st) {a : Nat} (ha : a < st.no.length) {s : ByteArray} (hs : s.size ≤ 64) :
    ((runOps st [some (a, s), none]).2 = 0 ∧ Rst (runOps st [some (a, s), none]).1 ∧ (runOps st [some (a, s), none]).1.no = st.no.set a (pad s) ∧ (st.fu < 0 → (runOps st [some (a, s), none]).1.fu = st.fu)) ∨
    ((runOps st [some (a, s), none]).2 = 12 ∧ 0 ≤ st.fu ∧ ∀ K, Rst (crashS (runOps st [some (a, s), none]).1 K) ∧ ((crashS (runOps st [some (a, s), none]).1 K).no = st.no ∨ ∃ k, k ≤ 128 ∧ (crashS (runOps st [some (a, s), none]).1 K).no = st.no.set a (tear (st.no.getD a []) (pad s) k))) := by
  have hf : ∀ o ∈ [some (a, s)] ++ [(none : Step)], FineStep st.no.length o := by
    intro o ho
    simp at ho
    rcases ho with rfl | rfl
    · exact ⟨ha, hs⟩
    · trivial
  rcases run_cases [some (a, s), none] st h.off hf with ⟨f, hf1, hr⟩ | ⟨h0, i, hi, hr⟩
  · left
    rw [hr]
    exact ⟨rfl, h.done hf f, rfl, fun hn => hf1 hn⟩
  · right
    rw [hr]
    refine ⟨rfl, h0, fun K => ?_⟩
    have hi2 : i = 0 ∨ i = 1 := by simp at hi; omega
    rcases hi2 with rfl | rfl
    · have e : crashS (wf (effs st ([some (a, s), none].take 0)) 0 true) K = crashS st K := rfl
      rw [e]
      exact ⟨h.good.rst K, .inl (h.crash K)⟩
    · have e : crashS (wf (effs st ([some (a, s), none].take 1)) 0 true) K = crashS (eff st (some (a, s))) K := rfl
      have hG : Good (eff st (some (a, s))) := h.good.eff (o := some (a, s)) ⟨ha, hs⟩
      rw [e]
      refine ⟨hG.rst K, .inr ⟨kOf K 0, kOf_le _ _, ?_⟩⟩
      rw [hG.crash]
      show tearL K 0 (st.lo ++ [(a, pad s)]) st.su = _
      rw [h.lo, h.su]; rfl
/-- An Append leaves alone what is ahead of the journal's end, and behind its last sector. -/
theorem app_in {js : JSt} {s : ByteArray} (hr : (s.size : Int) ≤ leftI js) : ∀ o ∈ appOps js s, StepIn (fun i => js.en ≤ i ∧ i < js.lim) o := by
  obtain ⟨r1, r2⟩ := room_of hr
  intro o ho
  rw [appOps_eq] at ho
  rcases List.mem_append.1 ho with ho | ho
  · obtain ⟨a, s, rfl, h1, h2, _⟩ := lays_puts (n := js.lim) (by omega) o ho
    exact ⟨by omega, h2⟩
  · simp at ho
    rcases ho with rfl | rfl | rfl
    · trivial
    · exact ⟨Nat.le_refl _, by omega⟩
    · trivial
theorem run_frame {st : St} (h : Rst st) {X : Nat → Prop} {l : List Step} (hf : ∀ o ∈ l, FineStep st.no.length o) (hi : ∀ o ∈ l, StepIn X o) :
    (∀ i, ¬ X i → (runOps st l).1.no[i]? = st.no[i]?) ∧ ∀ K, Rst (crashS (runOps st l).1 K) ∧ ∀ i, ¬ X i → (crashS (runOps st l).1 K).no[i]? = st.no[i]? := by
  rcases run_cases l st h.off hf with ⟨f, _, hr2⟩ | ⟨h0, k, _, hr2⟩
  · rw [hr2]
    obtain ⟨k1, k2⟩ := out_effs (st := st) hi (by rw [h.lo]; simp)
    refine ⟨fun i hi => (k2 i hi).1, fun K => ?_⟩
    obtain ⟨c1, c2, c3⟩ := h.crash_out hf hi K
    exact ⟨c1, c3⟩
  · rw [hr2]
    have hin : ∀ o ∈ l.take k, StepIn X o := fun o ho => hi o (List.mem_of_mem_take ho)
    obtain ⟨k1, k2⟩ := out_effs (st := st) hin (by rw [h.lo]; simp)
    refine ⟨fun i hi => (k2 i hi).1, fun K => ?_⟩
    obtain ⟨c1, c2, c3⟩ := h.crash_out (fun o ho => hf o (List.mem_of_mem_take ho)) hin K
    exact ⟨c1, c3⟩
theorem app_frame {st : St} {js : JSt} {a : Nat} (h : Jn st js a) {s : ByteArray} (hr : (s.size : Int) ≤ leftI js) :
    (∀ i, (i < js.en ∨ js.lim ≤ i) → (appS st js s).no[i]? = st.no[i]?) ∧ ∀ K, Rst (crashS (appS st js s) K) ∧ ∀ i, (i < js.en ∨ js.lim ≤ i) → (crashS (appS st js s) K).no[i]? = st.no[i]? := by
  have eS : appS st js s = (runOps st (appOps js s)).1 := by
    have : ¬ leftI js < (s.size : Int) := by omega
    unfold appS; rw [h.dead]; simp [this]
  have hnX : ∀ i, (i < js.en ∨ js.lim ≤ i) → ¬ (js.en ≤ i ∧ i < js.lim) := fun i hi h => by omega
  rw [eS]
  obtain ⟨k1, k2⟩ := run_frame h.hf.rst (h.fine hr) (app_in hr)
  exact ⟨fun i hi => k1 i (hnX i hi), fun K => ⟨(k2 K).1, fun i hi => (k2 K).2 i (hnX i hi)⟩⟩

/-! ### What records say -/
def Cont (recs : List ByteArray) (kv : List KV) : Prop := ∃ ls : List (List KW), recs = ls.map recB ∧ (∀ l ∈ ls, l.any (fun c => !rightW c) = false ∧ l.length ≤ 1000 ∧ (recB l).size ≤ 1048576) ∧ ls.flatten.foldl kdo [] = kv
theorem foldl_rising : ∀ (l : List KW) (L : List KV), Rising L → Rising (l.foldl kdo L)
  | [], _, h => h
  | c :: r, L, h => foldl_rising r (kdo L c) (kdo_rising h)
theorem foldl_sz {P : KV → Prop} : ∀ (l : List KW) (L : List KV), (∀ p ∈ L, P p) → (∀ c ∈ l, c.2.2 = false → P (c.1, c.2.1)) → ∀ p ∈ l.foldl kdo L, P p
  | [], L, h, _ => h
  | c :: r, L, h, hc => foldl_sz r (kdo L c) (fun p hp => by
      rcases kdo_mem hp with hp | ⟨h1, rfl⟩
      · exact h p hp
      · exact hc c (List.mem_cons_self ..) h1) (fun d hd => hc d (List.mem_cons_of_mem _ hd))
theorem kdo_end {w : KW} (hw : w.2.2 = false) : ∀ {L : List KV}, (∀ q ∈ L, bl q.1 < bl w.1) → kdo L w = L ++ [(w.1, w.2.1)]
  | [], _ => by simp [kdo, wput, hw]
  | p :: r, h => by
    simp only [kdo]
    rw [if_pos (h p (List.mem_cons_self ..)), kdo_end hw (fun q hq => h q (List.mem_cons_of_mem _ hq))]; rfl
theorem foldl_puts : ∀ (M L : List KV), Rising (L ++ M) → (M.map asPut).foldl kdo L = L ++ M
  | [], L, _ => by simp
  | p :: r, L, h => by
    have h1 : ∀ q ∈ L, bl q.1 < bl p.1 := fun q hq => (List.pairwise_append.1 h).2.2 q hq p (List.mem_cons_self ..)
    simp only [List.map_cons, List.foldl_cons]
    rw [kdo_end (w := asPut p) rfl h1]
    have := foldl_puts r (L ++ [p]) (by simpa using h)
    simpa [asPut] using this
theorem Cont.rising {recs : List ByteArray} {kv : List KV} (h : Cont recs kv) : Rising kv := by
  obtain ⟨ls, _, _, rfl⟩ := h
  exact foldl_rising _ _ List.Pairwise.nil
theorem Cont.ok {recs : List ByteArray} {kv : List KV} (h : Cont recs kv) : ∀ p ∈ kv, 1 ≤ p.1.size ∧ p.1.size ≤ 40 ∧ p.2.size ≤ 9000 := by
  obtain ⟨ls, _, h2, rfl⟩ := h
  refine foldl_sz _ _ (fun p hp => by cases hp) (fun c hc _ => ?_)
  obtain ⟨l, hl, hc⟩ := List.mem_flatten.1 hc
  obtain ⟨_, a, b, d, _⟩ := right_of (h2 l hl).1 c hc
  exact ⟨a, b, d⟩
theorem right_puts {kv : List KV} (h : ∀ p ∈ kv, 1 ≤ p.1.size ∧ p.1.size ≤ 40 ∧ p.2.size ≤ 9000) : (kv.map asPut).any (fun c => !rightW c) = false := by
  rw [List.any_eq_false]
  intro c hc
  obtain ⟨p, hp, rfl⟩ := List.mem_map.1 hc
  obtain ⟨a, b, d⟩ := h p hp
  have h1 : ¬ p.1.size = 0 := by omega
  have h2 : (p.1.size : Int) ≤ 40 := by omega
  have h3 : (p.2.size : Int) ≤ 9000 := by omega
  simp [rightW, asPut, h1, h2, h3]
theorem Cont.all {recs : List ByteArray} {kv : List KV} (h : Cont recs kv) (hl : kv.length ≤ 1000) (hs : (allB kv).size ≤ 1048576) : Cont [allB kv] kv :=
  ⟨[kv.map asPut], rfl, fun l hl2 => by
    simp at hl2; subst hl2
    exact ⟨right_puts h.ok, by simpa using hl, hs⟩, by
    have := foldl_puts kv [] (by simpa using h.rising)
    simpa using this⟩
theorem Cont.nil : Cont [] [] := ⟨[], rfl, (fun l h => nomatch h), rfl⟩
theorem Cont.snoc {recs : List ByteArray} {kv : List KV} (h : Cont recs kv) {l : List KW} (h1 : l.any (fun c => !rightW c) = false) (h2 : l.length ≤ 1000) (h3 : (recB l).size ≤ 1048576) : Cont (recs ++ [recB l]) (l.foldl kdo kv) := by
  obtain ⟨ls, rfl, h4, rfl⟩ := h
  refine ⟨ls ++ [l], by simp, fun x hx => ?_, by simp [List.foldl_append]⟩
  rcases List.mem_append.1 hx with hx | hx
  · exact h4 x hx
  · simp at hx; subst hx; exact ⟨h1, h2, h3⟩
theorem cost_len : ∀ {ls : List (List KW)} {a : Nat}, (∀ l ∈ ls, l.any (fun c => !rightW c) = false) → 4 * ((ls.flatten.map wrCost).sum) + 64 * a ≤ 64 * enOf a (ls.map recB)
  | [], a, _ => by simp [enOf]
  | l :: r, a, h => by
    have h1 := cost_len (ls := r) (a := a + needN (recB l).size) (fun x hx => h x (List.mem_cons_of_mem _ hx))
    have h2 := recL_len (l := l) (fun w hw => (right_of (h l (List.mem_cons_self ..)) w hw).2.1)
    have h3 := need_big (recB l).size
    rw [recB_size] at h3 h1
    rw [List.map_cons, enOf_cons, recB_size, List.flatten_cons, List.map_append, List.sum_append]
    omega
theorem Cont.few {recs : List ByteArray} {kv : List KV} (h : Cont recs kv) (a : Nat) : 4 * kv.length + 64 * a ≤ 64 * enOf a recs := by
  obtain ⟨ls, rfl, h2, rfl⟩ := h
  have h1 := cost_len (ls := ls) (a := a) (fun l hl => (h2 l hl).1)
  have h3 := foldl_few ls.flatten []
  simp only [List.length_nil, Nat.zero_add] at h3
  omega
end Go.Proofs.YtdebfnlnpfienaaGreatDoor
