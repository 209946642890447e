/- A journal in sectors, in plain lists: what is found in them; heads that are torn. -/
import Derived.Test.YtdebfnlnpfienaaGreatDoorJnFound
import Derived.Test.YtdebfnlnpfienaaGreatDoorPlA
import Derived.Test.YtdebfnlnpfienaaGreatDoorJnE
namespace Go.Proofs.YtdebfnlnpfienaaGreatDoor
open Go.RowKit Lift
set_option linter.unusedSimpArgs false
set_option linter.unusedVariables false

/-! ### Records one behind another -/
def chainL (nx : Nat → Nat → Option ByteArray) : Nat → Nat → List ByteArray → Prop
  | _, _, [] => True
  | t, en, s :: r => nx t en = some s ∧ chainL nx (t + 1) (en + needN s.size) r
theorem enOf_nil (a : Nat) : enOf a [] = a := by simp [enOf]
theorem enOf_cons (a : Nat) (s : ByteArray) (r : List ByteArray) : enOf a (s :: r) = enOf (a + needN s.size) r := by simp [enOf]; omega
theorem enOf_ge : ∀ (r : List ByteArray) (a : Nat), a + r.length ≤ enOf a r
  | [], a => by simp [enOf]
  | s :: r, a => by
    rw [enOf_cons]
    have := enOf_ge r (a + needN s.size)
    unfold needN at *; simp only [List.length_cons]; omega
theorem found_chain {nx : Nat → Nat → Option ByteArray} : ∀ (recs : List ByteArray) (f : Nat) (l : List ByteArray) (en : Nat), chainL nx l.length en recs → recs.length ≤ f → nx (l.length + recs.length) (enOf en recs) = none → foundL nx f l en = (l ++ recs, enOf en recs)
  | [], f, l, en, _, _, hn => by
    rw [foundL_none (by simpa [enOf] using hn)]
    simp [enOf]
  | s :: r, 0, l, en, _, hf, _ => by simp at hf
  | s :: r, f + 1, l, en, ⟨h1, h2⟩, hf, hn => by
    rw [foundL_some h1, found_chain r f (l ++ [s]) _ (by simpa using h2) (by simpa using hf) (by rw [enOf_cons] at hn; rw [← hn]; congr 1; simp; omega), enOf_cons]
    simp
theorem chainL_snoc {nx : Nat → Nat → Option ByteArray} {s : ByteArray} : ∀ (recs : List ByteArray) (t en : Nat), chainL nx t en recs → nx (t + recs.length) (enOf en recs) = some s → chainL nx t en (recs ++ [s])
  | [], t, en, _, h => ⟨by simpa [enOf] using h, trivial⟩
  | x :: r, t, en, ⟨h1, h2⟩, h => ⟨h1, chainL_snoc r (t + 1) _ h2 (by rw [enOf_cons] at h; rw [← h]; congr 1; simp; omega)⟩

/-! ### What a record's sectors tell -/
theorem bytesAt_agree {no no' : Secs} {a n : Nat} (h : ∀ i, a ≤ i → i < a + n → no'[i]? = no[i]?) : bytesAt no' a n = bytesAt no a n := by
  unfold bytesAt
  congr 1
  apply List.ext_getElem?
  intro i
  rw [List.getElem?_take, List.getElem?_take, List.getElem?_drop, List.getElem?_drop]
  split
  · exact h _ (by omega) (by omega)
  · rfl
theorem nextRec_agree {no no' : Secs} {lim gen t en : Nat} {s : ByteArray} (h64 : ∀ d ∈ no, d.length = 64) (hl : lim ≤ no.length) (h : nextRec no lim gen t en = some s) (ha : ∀ i, en ≤ i → i < en + needN s.size → no'[i]? = no[i]?) : nextRec no' lim gen t en = some s := by
  obtain ⟨h1, h2, h3, h4, h5⟩ := nextRec_some h64 hl h
  have e0 : no'.getD en [] = no.getD en [] := by
    rw [List.getD_eq_getElem?_getD, List.getD_eq_getElem?_getD, ha en (Nat.le_refl _) (by unfold needN; omega)]
  have e1 : recText no' en s.size = recText no en s.size := by
    unfold recText
    rw [bytesAt_agree (fun i h1 h2 => ha i (by omega) (by omega))]
  unfold nextRec
  rw [e0, h3, e1, ← h4, if_pos ⟨h1, h2, h5⟩]
theorem chain_agree {no no' : Secs} {lim gen : Nat} (h64 : ∀ d ∈ no, d.length = 64) (hl : lim ≤ no.length) : ∀ (recs : List ByteArray) (t en : Nat), chainL (nextRec no lim gen) t en recs → (∀ i, en ≤ i → i < enOf en recs → no'[i]? = no[i]?) → chainL (nextRec no' lim gen) t en recs
  | [], _, _, _, _ => trivial
  | s :: r, t, en, ⟨h1, h2⟩, ha => by
    have hg := enOf_ge r (en + needN s.size)
    rw [enOf_cons] at ha
    exact ⟨nextRec_agree h64 hl h1 (fun i a b => ha i a (by omega)), chain_agree h64 hl r _ _ h2 (fun i a b => ha i (by omega) b)⟩
theorem chain_lt {no : Secs} {lim gen : Nat} (h64 : ∀ d ∈ no, d.length = 64) (hl : lim ≤ no.length) : ∀ (recs : List ByteArray) (t en : Nat), en < lim → chainL (nextRec no lim gen) t en recs → enOf en recs < lim
  | [], _, en, h, _ => by simpa [enOf] using h
  | s :: r, t, en, h, ⟨h1, h2⟩ => by
    rw [enOf_cons]
    have := (nextRec_some h64 hl h1).2.1
    exact chain_lt h64 hl r _ _ (by omega) h2
theorem chunk_list (s : ByteArray) (i : Nat) : (chunkB s i).data.toList = (s.data.toList.drop (64 * i)).take (min (64 * (i + 1)) s.size - 64 * i) := by
  unfold chunkB
  rw [ByteArray.data_extract]
  simp [List.extract_eq_take_drop]
theorem chunk_size (s : ByteArray) (i : Nat) (h : i < (s.size + 63) / 64) : (chunkB s i).size = min (64 * (i + 1)) s.size - 64 * i ∧ (chunkB s i).size ≤ 64 := by
  have : (chunkB s i).size = (chunkB s i).data.toList.length := by simp
  rw [this, chunk_list, List.length_take, List.length_drop]
  have : s.data.toList.length = s.size := by simp
  omega
theorem laid_bytes {no : Secs} {en : Nat} {s : ByteArray} (hd : ∀ i, i < (s.size + 63) / 64 → no[en + 1 + i]? = some (pad (chunkB s i))) : ∀ k, k ≤ (s.size + 63) / 64 → bytesAt no (en + 1) k = s.data.toList.take (64 * k) ++ List.replicate (64 * k - s.size) 0
  | 0, _ => by simp [bytesAt_zero]
  | k + 1, hk => by
    have hs : s.data.toList.length = s.size := by simp
    have h1 : 64 * k - s.size = 0 := by omega
    rw [bytesAt_succ (hd k (by omega)), laid_bytes hd k (by omega), h1, List.replicate_zero, List.append_nil]
    unfold pad
    obtain ⟨e1, _⟩ := chunk_size s k (by omega)
    rw [chunk_list, e1, ← List.append_assoc]
    congr 1
    · have e2 : min (64 * (k + 1)) s.size - 64 * k = (if 64 * (k + 1) ≤ s.size then 64 else s.size - 64 * k) := by split <;> omega
      rw [e2]
      split
      · rw [show 64 * (k + 1) = 64 * k + 64 by omega, List.take_add]
      · rw [List.take_of_length_le (l := s.data.toList.drop (64 * k)) (by simp), List.take_append_drop, List.take_of_length_le (by simp; omega)]
    · congr 1; omega
theorem recText_laid {no : Secs} {en : Nat} {s : ByteArray} (hd : ∀ i, i < (s.size + 63) / 64 → no[en + 1 + i]? = some (pad (chunkB s i))) : recText no en s.size = s := by
  unfold recText
  have hs : s.data.toList.length = s.size := by simp
  have : (bytesAt no (en + 1) (needN s.size - 1)).take s.size = s.data.toList := by
    rw [show needN s.size - 1 = (s.size + 63) / 64 by unfold needN; omega, laid_bytes hd _ (Nat.le_refl _), List.take_append_of_le_length (by rw [List.length_take]; omega), List.take_take, List.take_of_length_le (by omega)]
  rw [this]
theorem nextRec_laid {no : Secs} {lim gen t en : Nat} {s : ByteArray} (h1 : s.size ≤ 1048576) (h2 : en + needN s.size + 1 ≤ lim) (hh : no[en]? = some (headL t gen s)) (hd : ∀ i, i < (s.size + 63) / 64 → no[en + 1 + i]? = some (pad (chunkB s i))) : nextRec no lim gen t en = some s := by
  have e0 : no.getD en [] = headL t gen s := by rw [List.getD_eq_getElem?_getD, hh]; rfl
  unfold nextRec
  rw [e0, le4_headL _ _ _ (by omega), recText_laid hd, if_pos ⟨h1, h2, rfl⟩]

/-! ### No heads -/
def NH (d : List UInt8) : Prop := d.getD 0 0 ≠ 165 ∨ d.getD 63 0 ≠ 90
theorem nextRec_nh {no : Secs} {lim gen t en : Nat} (h : NH (no.getD en [])) : nextRec no lim gen t en = none := by
  unfold nextRec
  rw [if_neg]
  rintro ⟨_, _, h3⟩
  rw [← h3] at h
  obtain ⟨a, b⟩ := headL_first t gen (recText no en (le4 (no.getD en [])))
  rcases h with h | h
  · exact h a
  · exact h b
theorem zer_nh : NH zer := .inl (by decide)
theorem zer_at (i : Nat) : zer.getD i 0 = 0 := by
  unfold zer
  rw [List.getD_eq_getElem?_getD, List.getElem?_replicate]
  split <;> rfl
theorem tear_head {d : List UInt8} (hd : d.length = 64) {k : Nat} (hk : k ≤ 128) : tear zer d k = d ∨ NH (tear zer d k) := by
  unfold tear
  split
  · rename_i h
    by_cases h64 : k = 64
    · subst h64
      left
      rw [List.take_of_length_le (by omega), List.drop_of_length_le (by simp [zer_len]), List.append_nil]
    · right; right
      have : (List.take k d ++ List.drop k zer).getD 63 0 = 0 := by
        rw [List.getD_eq_getElem?_getD, List.getElem?_append_right (by simp; omega), List.getElem?_drop]
        rw [← List.getD_eq_getElem?_getD]
        exact zer_at _
      rw [this]; decide
  · rename_i h
    by_cases h0 : k = 128
    · subst h0; left; simp
    · right; left
      have : (List.take (128 - k) zer ++ List.drop (128 - k) d).getD 0 0 = 0 := by
        rw [List.getD_eq_getElem?_getD, List.getElem?_append_left (by simp [zer_len]; omega), List.getElem?_take, if_pos (by omega), ← List.getD_eq_getElem?_getD]
        exact zer_at _
      rw [this]; decide
theorem tear_zer {d : List UInt8} (hd : d.length = 64) (hn : NH d) {k : Nat} (hk : k ≤ 128) : NH (tear d zer k) := by
  unfold tear
  split
  · rename_i h
    by_cases h0 : k = 0
    · subst h0; simpa using hn
    · left
      have : (List.take k zer ++ List.drop k d).getD 0 0 = 0 := by
        rw [List.getD_eq_getElem?_getD, List.getElem?_append_left (by simp [zer_len]; omega), List.getElem?_take, if_pos (by omega), ← List.getD_eq_getElem?_getD]
        exact zer_at _
      rw [this]; decide
  · rename_i h
    right
    have : (List.take (128 - k) d ++ List.drop (128 - k) zer).getD 63 0 = 0 := by
      rw [List.getD_eq_getElem?_getD, List.getElem?_append_right (by simp; omega), List.getElem?_drop, ← List.getD_eq_getElem?_getD]
      exact zer_at _
    rw [this]; decide
/-- A head tells its generation. -/
theorem head_gen {t gen t' gen' : Nat} {s s' : ByteArray} (h1 : gen < 4294967296) (h2 : gen' < 4294967296) (h : headL t gen s = headL t' gen' s') : gen = gen' := by
  have h5 : (headL t gen s).getD 5 0 = (headL t' gen' s').getD 5 0 := by rw [h]
  have h6 : (headL t gen s).getD 6 0 = (headL t' gen' s').getD 6 0 := by rw [h]
  have h7 : (headL t gen s).getD 7 0 = (headL t' gen' s').getD 7 0 := by rw [h]
  have h8 : (headL t gen s).getD 8 0 = (headL t' gen' s').getD 8 0 := by rw [h]
  simp [headL, fourL, twoL] at h5 h6 h7 h8
  have k5 := congrArg UInt8.toNat h5; have k6 := congrArg UInt8.toNat h6; have k7 := congrArg UInt8.toNat h7; have k8 := congrArg UInt8.toNat h8
  simp only [u8n_toNat] at k5 k6 k7 k8
  omega
end Go.Proofs.YtdebfnlnpfienaaGreatDoor

/- Appends and openings, wherever the power goes: plain. -/
namespace Go.Proofs.YtdebfnlnpfienaaGreatDoor
open Go.RowKit Lift
set_option linter.unusedSimpArgs false
set_option linter.unusedVariables false

/-! ### Steps that the power lets through -/
def wf (st : St) (f : Int) (b : Bool) : St := { st with fu := f, off := b }
def eff (st : St) : Step → St
  | some (a, s) => { st with no := st.no.set a (pad s), lo := st.lo ++ [(a, pad s)] }
  | none => { st with su := settL st.no st.lo st.su, lo := [] }
def effs (st : St) (l : List Step) : St := l.foldl eff st
def FineStep (n : Nat) : Step → Prop
  | some (a, s) => a < n ∧ s.size ≤ 64
  | none => True
theorem eff_wf (st : St) (f : Int) (b : Bool) (o : Step) : eff (wf st f b) o = wf (eff st o) f b := by rcases o with _ | ⟨a, s⟩ <;> rfl
theorem effs_wf : ∀ (l : List Step) (st : St) (f : Int) (b : Bool), effs (wf st f b) l = wf (effs st l) f b
  | [], _, _, _ => rfl
  | o :: r, st, f, b => by
    show effs (eff (wf st f b) o) r = wf (effs (eff st o) r) f b
    rw [eff_wf, effs_wf r]
theorem effs_append (st : St) (l m : List Step) : effs st (l ++ m) = effs (effs st l) m := by simp [effs]
theorem eff_len (st : St) (o : Step) : (eff st o).no.length = st.no.length := by rcases o with _ | ⟨a, s⟩ <;> simp [eff]
theorem effs_len : ∀ (l : List Step) (st : St), (effs st l).no.length = st.no.length
  | [], _ => rfl
  | o :: r, st => (effs_len r (eff st o)).trans (eff_len st o)
theorem fine_there {st : St} (ho : st.off = false) {a : Nat} (h : a < st.no.length) : thereE st a = 0 := by
  unfold thereE
  rw [ho, if_neg (by simp), if_neg (by omega)]
theorem step_dead {st : St} (ho : st.off = false) (hf : st.fu = 0) (o : Step) (h : FineStep st.no.length o) : stepEr st o = 12 ∧ stepSt st o = wf st 0 true := by
  obtain ⟨su, no, lo, fu, off⟩ := st
  simp only at ho hf h
  subst ho; subst hf
  rcases o with _ | ⟨a, s⟩
  · exact ⟨rfl, rfl⟩
  · obtain ⟨h1, h2⟩ := h
    have h3 := fine_there (st := ⟨su, no, lo, 0, false⟩) rfl h1
    refine ⟨?_, ?_⟩
    · show putE _ _ _ = _
      unfold putE; rw [if_pos h3, if_neg (by omega)]; rfl
    · show putS _ _ _ = _
      unfold putS; rw [if_pos h3, if_neg (by omega), if_neg (by unfold burnE; simp)]; rfl
theorem step_live {st : St} (ho : st.off = false) (hf : st.fu ≠ 0) (o : Step) (h : FineStep st.no.length o) : stepEr st o = 0 ∧ stepSt st o = wf (eff st o) (if 0 < st.fu then st.fu - 1 else st.fu) false := by
  obtain ⟨su, no, lo, fu, off⟩ := st
  simp only at ho hf h
  subst ho
  have hb : burnE ⟨su, no, lo, fu, false⟩ = 0 := by unfold burnE; rw [if_neg hf]
  have hs : burnS ⟨su, no, lo, fu, false⟩ = ⟨su, no, lo, if 0 < fu then fu - 1 else fu, false⟩ := by
    unfold burnS; simp only; rw [if_neg hf]; split <;> rfl
  rcases o with _ | ⟨a, s⟩
  · refine ⟨?_, ?_⟩
    · show syncE _ = _
      unfold syncE; simpa using hb
    · show syncS _ = _
      unfold syncS; rw [if_neg (by simp), if_pos hb, hs]; rfl
  · obtain ⟨h1, h2⟩ := h
    have h3 := fine_there (st := ⟨su, no, lo, fu, false⟩) rfl h1
    refine ⟨?_, ?_⟩
    · show putE _ _ _ = _
      unfold putE; rw [if_pos h3, if_neg (by omega)]; exact hb
    · show putS _ _ _ = _
      unfold putS; rw [if_pos h3, if_neg (by omega), if_pos hb, hs]; rfl
theorem run_cases : ∀ (l : List Step) (st : St), st.off = false → (∀ o ∈ l, FineStep st.no.length o) →
    (∃ f, (st.fu < 0 → f = st.fu) ∧ runOps st l = (wf (effs st l) f false, 0)) ∨ (0 ≤ st.fu ∧ ∃ i, i < l.length ∧ runOps st l = (wf (effs st (l.take i)) 0 true, 12))
  | [], st, ho, _ => .inl ⟨st.fu, fun _ => rfl, by
      obtain ⟨su, no, lo, fu, off⟩ := st
      simp only at ho
      subst ho
      rfl⟩
  | o :: r, st, ho, hf => by
    by_cases h0 : st.fu = 0
    · obtain ⟨h1, h2⟩ := step_dead ho h0 o (hf o (by simp))
      refine .inr ⟨by omega, 0, by simp, ?_⟩
      simp only [runOps]
      rw [h1, h2, if_neg (by decide)]
      rfl
    · obtain ⟨h1, h2⟩ := step_live ho h0 o (hf o (by simp))
      have hr : runOps st (o :: r) = runOps (stepSt st o) r := by simp only [runOps]; rw [if_pos h1]
      have hl : (stepSt st o).no.length = st.no.length := by rw [h2]; exact eff_len st o
      have ho2 : (stepSt st o).off = false := by rw [h2]; rfl
      have e : ∀ (m : List Step) f b, wf (effs (stepSt st o) m) f b = wf (effs st (o :: m)) f b := fun m f b => by
        rw [h2, effs_wf]; rfl
      have hfu : (stepSt st o).fu = (if 0 < st.fu then st.fu - 1 else st.fu) := by rw [h2]; rfl
      rw [hr]
      rcases run_cases r (stepSt st o) ho2 (fun x hx => by rw [hl]; exact hf x (List.mem_cons_of_mem _ hx)) with ⟨f, hf1, hf2⟩ | ⟨hf1, i, hi, hf2⟩
      · refine .inl ⟨f, fun hn => ?_, ?_⟩
        · rw [hf1 (by rw [hfu, if_neg (by omega)]; exact hn), hfu, if_neg (by omega)]
        · rw [hf2, e]
      · refine .inr ⟨by rw [hfu] at hf1; split at hf1 <;> omega, i + 1, by simpa using hi, ?_⟩
        rw [hf2, e]; rfl

/-! ### What a crash leaves -/
theorem Good.wf {st : St} (h : Good st) (f : Int) (b : Bool) : Good (wf st f b) := ⟨h.su64, h.lo64, h.eq⟩
theorem Good.eff {st : St} (h : Good st) {o : Step} (hf : FineStep st.no.length o) : Good (eff st o) := by
  rcases o with _ | ⟨a, s⟩
  · refine ⟨?_, by intro x hx; simp [Go.Proofs.YtdebfnlnpfienaaGreatDoor.eff] at hx, ?_⟩
    · show ∀ d ∈ settL st.no st.lo st.su, d.length = 64
      rw [h.settle]; exact h.n64
    · show st.no = settL st.no st.lo st.su
      rw [h.settle]
  · obtain ⟨h1, h2⟩ := hf
    refine ⟨h.su64, fun x hx => ?_, ?_⟩
    · rcases List.mem_append.1 hx with hx | hx
      · exact h.lo64 x hx
      · simp at hx; subst hx; exact pad_len h2
    · show st.no.set a (pad s) = setAll (st.lo ++ [(a, pad s)]) st.su
      rw [setAll_snoc, ← h.eq]
theorem Good.effs : ∀ {l : List Step} {st : St}, Good st → (∀ o ∈ l, FineStep st.no.length o) → Good (effs st l)
  | [], _, h, _ => h
  | o :: r, st, h, hf => Good.effs (l := r) (h.eff (hf o (by simp))) (fun x hx => by rw [eff_len]; exact hf x (List.mem_cons_of_mem _ hx))
theorem tearS64 (keep : List Int) : ∀ (lo : List Wr) (j : Nat) (b : Secs), (∀ d ∈ b, d.length = 64) → (∀ x ∈ lo, x.2.length = 64) → ∀ d ∈ tearL keep j lo b, d.length = 64
  | [], _, _, hb, _ => hb
  | x :: r, j, b, hb, hx => by
    unfold tearL
    refine tearS64 keep r _ _ (fun d hd => ?_) (fun y hy => hx y (List.mem_cons_of_mem _ hy))
    by_cases hl : x.1 < b.length
    · rcases List.mem_or_eq_of_mem_set hd with hd | rfl
      · exact hb d hd
      · refine tear_len ?_ (hx x (by simp))
        rw [List.getD_eq_getElem?_getD, List.getElem?_eq_getElem hl]
        exact hb _ (List.getElem_mem hl)
    · rw [List.set_eq_of_length_le (by omega)] at hd
      exact hb d hd
/-- A plate at rest on which a journal's records stand, and behind them no head. -/
structure Hf (st : St) (lim gen a : Nat) (recs : List ByteArray) : Prop where
  d64 : ∀ d ∈ st.no, d.length = 64
  su : st.su = st.no
  lo : st.lo = []
  off : st.off = false
  bd : lim ≤ st.no.length
  al : a < lim
  chain : chainL (nextRec st.no lim gen) 0 a recs
  nh : NH (st.no.getD (enOf a recs) [])
theorem Hf.wf {st : St} {lim gen a : Nat} {recs : List ByteArray} (h : Hf st lim gen a recs) (f : Int) : Hf (wf st f false) lim gen a recs := ⟨h.d64, h.su, h.lo, rfl, h.bd, h.al, h.chain, h.nh⟩
theorem Hf.good {st : St} {lim gen a : Nat} {recs : List ByteArray} (h : Hf st lim gen a recs) : Good st := ⟨by rw [h.su]; exact h.d64, by rw [h.lo]; simp, by rw [h.lo, h.su]; rfl⟩
theorem Hf.enl {st : St} {lim gen a : Nat} {recs : List ByteArray} (h : Hf st lim gen a recs) : enOf a recs < lim := chain_lt h.d64 h.bd recs 0 a h.al h.chain
/-- A crash behind steps that leave what is sure up to the end as it was. -/
theorem Hf.crashed {st X : St} {lim gen a : Nat} {recs : List ByteArray} (h : Hf st lim gen a recs) (hX : Good X) (hl : X.no.length = st.no.length) (hs : ∀ i, i < enOf a recs → X.su[i]? = st.no[i]?) (ho : ∀ x ∈ X.lo, enOf a recs ≤ x.1) (keep : List Int)
    (hn : NH ((tearL keep 0 X.lo X.su).getD (enOf a recs) [])) : Hf (crashS X keep) lim gen a recs := by
  rw [hX.crash]
  have hlen : (tearL keep 0 X.lo X.su).length = st.no.length := by rw [tearL_len, hX.len, hl]
  exact ⟨tearS64 keep _ _ _ hX.su64 hX.lo64, rfl, rfl, rfl, by rw [hlen]; exact h.bd, h.al, chain_agree h.d64 h.bd recs 0 a h.chain (fun i h1 h2 => by
    show (tearL keep 0 X.lo X.su)[i]? = _
    rw [tearL_out keep X.lo 0 X.su i (fun x hx e => by have := ho x hx; omega), hs i h2]), hn⟩

/-! ### Puts behind a sector -/
def PutAt (en n : Nat) (o : Step) : Prop := ∃ a s, o = some (a, s) ∧ en < a ∧ a < n ∧ s.size ≤ 64
theorem PutAt.fine {en n : Nat} {o : Step} (h : PutAt en n o) : FineStep n o := by
  obtain ⟨a, s, rfl, _, h1, h2⟩ := h
  exact ⟨h1, h2⟩
theorem puts_out {en n : Nat} : ∀ {l : List Step} {st : St}, (∀ o ∈ l, PutAt en n o) → (effs st l).su = st.su ∧ (∀ x ∈ (effs st l).lo, x ∈ st.lo ∨ en < x.1) ∧ ∀ i, i ≤ en → (effs st l).no[i]? = st.no[i]?
  | [], st, _ => ⟨rfl, fun x h => .inl h, fun _ _ => rfl⟩
  | o :: r, st, h => by
    obtain ⟨a, s, rfl, h1, h2, h3⟩ := h o (by simp)
    obtain ⟨k1, k2, k3⟩ := puts_out (l := r) (st := eff st (some (a, s))) (fun x hx => h x (List.mem_cons_of_mem _ hx))
    refine ⟨k1, fun x hx => ?_, fun i hi => (k3 i hi).trans ?_⟩
    · rcases k2 x hx with hx | hx
      · rcases List.mem_append.1 hx with hx | hx
        · exact .inl hx
        · simp at hx; subst hx; exact .inr h1
      · exact .inr hx
    · exact List.getElem?_set_ne (by omega)
theorem lay_puts {n : Nat} (en : Nat) (s : ByteArray) : ∀ k, k ≤ (s.size + 63) / 64 → en + k < n → ∀ o ∈ layOps en s k, PutAt en n o := by
  intro k hk hn o ho
  unfold layOps at ho
  obtain ⟨i, hi, rfl⟩ := List.mem_map.1 ho
  have hi := List.mem_range.1 hi
  exact ⟨_, _, rfl, by omega, by omega, (chunk_size s i (by omega)).2⟩
theorem lay_no (en : Nat) (s : ByteArray) (st : St) : ∀ k, en + k < st.no.length → ∀ i, i < k → (effs st (layOps en s k)).no[en + 1 + i]? = some (pad (chunkB s i))
  | 0, _, i, h => by omega
  | k + 1, hn, i, h => by
    rw [layOps_succ, effs_append]
    show ((effs st (layOps en s k)).no.set (en + 1 + k) (pad (chunkB s k)))[en + 1 + i]? = _
    by_cases e : i = k
    · subst e
      rw [List.getElem?_set_self (by rw [effs_len]; omega)]
    · rw [List.getElem?_set_ne (by omega)]
      exact lay_no en s st k (by omega) i (by omega)
theorem pad_none : pad ⟨#[]⟩ = zer := rfl
theorem pad_head (t gen : Nat) (s : ByteArray) : pad (headB t gen s) = headL t gen s := by
  have e : (headB t gen s).size = 64 := by show (headL t gen s).toArray.size = 64; simp [headL_len]
  unfold pad
  rw [e]; simp [headB]

/-! ### Append -/
structure Jn (st : St) (js : JSt) (a : Nat) : Prop where
  hf : Hf st js.lim js.gen a js.recs
  en : js.en = enOf a js.recs
  zero : st.no[js.en]? = some zer
  dead : js.dead = false
def lays (js : JSt) (s : ByteArray) : List Step := layOps js.en s ((s.size + 63) / 64) ++ [some (js.en + needN s.size, ⟨#[]⟩)]
theorem appOps_eq (js : JSt) (s : ByteArray) : appOps js s = lays js s ++ [none, some (js.en, headB js.recs.length js.gen s), none] := by simp [appOps, lays]
theorem lays_len (js : JSt) (s : ByteArray) : (lays js s).length = needN s.size := by simp [lays, layOps, needN]; omega
theorem room_of {js : JSt} {s : ByteArray} (h : (s.size : Int) ≤ leftI js) : s.size ≤ 1048576 ∧ js.en + needN s.size + 1 ≤ js.lim := by
  unfold leftI at h
  have : js.en + 2 ≤ js.lim ∨ js.lim < js.en + 2 := by omega
  unfold needN
  omega
theorem lays_puts {n : Nat} {js : JSt} {s : ByteArray} (h : js.en + needN s.size < n) : ∀ o ∈ lays js s, PutAt js.en n o := by
  intro o ho
  unfold needN at h
  rcases List.mem_append.1 ho with ho | ho
  · exact lay_puts js.en s _ (Nat.le_refl _) (by omega) o ho
  · simp at ho; subst ho
    exact ⟨_, _, rfl, by unfold needN; omega, h, by decide⟩
theorem lays_no {st : St} {js : JSt} {s : ByteArray} (h : js.en + needN s.size < st.no.length) : (∀ i, i < (s.size + 63) / 64 → (effs st (lays js s)).no[js.en + 1 + i]? = some (pad (chunkB s i))) ∧ (effs st (lays js s)).no[js.en + needN s.size]? = some zer := by
  have e : (effs st (lays js s)).no = (effs st (layOps js.en s ((s.size + 63) / 64))).no.set (js.en + needN s.size) zer := by
    unfold lays; rw [effs_append]; rfl
  rw [e]
  refine ⟨fun i hi => ?_, by rw [List.getElem?_set_self (by rw [effs_len]; exact h)]⟩
  rw [List.getElem?_set_ne (by unfold needN; omega)]
  exact lay_no js.en s st _ (by unfold needN at h; omega) i hi
section
variable {st : St} {js : JSt} {a : Nat} {s : ByteArray}
/-- The sectors of the text, and the end, are laid; sure. -/
structure Mid (st X : St) (js : JSt) (s : ByteArray) : Prop where
  good : Good X
  len : X.no.length = st.no.length
  su : X.su = X.no
  lo : X.lo = []
  low : ∀ i, i ≤ js.en → X.no[i]? = st.no[i]?
  data : ∀ i, i < (s.size + 63) / 64 → X.no[js.en + 1 + i]? = some (pad (chunkB s i))
  fin : X.no[js.en + needN s.size]? = some zer
theorem Jn.fine (h : Jn st js a) (hr : (s.size : Int) ≤ leftI js) : ∀ o ∈ appOps js s, FineStep st.no.length o := by
  obtain ⟨r1, r2⟩ := room_of hr
  have hl := h.hf.bd
  intro o ho
  rw [appOps_eq] at ho
  rcases List.mem_append.1 ho with ho | ho
  · exact (lays_puts (by omega) o ho).fine
  · simp at ho
    rcases ho with rfl | rfl | rfl
    · trivial
    · exact ⟨by omega, by show (headB _ _ _).size ≤ 64; show (headL _ _ _).toArray.size ≤ 64; simp [headL_len]⟩
    · trivial
theorem Jn.mid (h : Jn st js a) (hr : (s.size : Int) ≤ leftI js) : Mid st (effs st (lays js s ++ [none])) js s := by
  obtain ⟨r1, r2⟩ := room_of hr
  have hl := h.hf.bd
  have hp : ∀ o ∈ lays js s, PutAt js.en st.no.length o := lays_puts (by omega)
  have hG : Good (effs st (lays js s)) := h.hf.good.effs (fun o ho => (hp o ho).fine)
  obtain ⟨p1, p2, p3⟩ := puts_out (st := st) hp
  obtain ⟨d1, d2⟩ := lays_no (st := st) (js := js) (s := s) (by omega)
  have e : effs st (lays js s ++ [none]) = eff (effs st (lays js s)) none := by rw [effs_append]; rfl
  rw [e]
  exact ⟨hG.eff trivial, by rw [eff_len, effs_len], hG.settle, rfl, p3, d1, d2⟩
theorem Jn.done (h : Jn st js a) (hr : (s.size : Int) ≤ leftI js) (f : Int) : Jn (wf (effs st (appOps js s)) f false) { js with recs := js.recs ++ [s], en := js.en + needN s.size } a := by
  obtain ⟨r1, r2⟩ := room_of hr
  have hl := h.hf.bd
  have hM := h.mid hr
  have hF : Good (effs st (appOps js s)) := h.hf.good.effs (h.fine hr)
  have hs : (effs st (appOps js s)).no = (effs st (lays js s ++ [none])).no.set js.en (headL js.recs.length js.gen s) := by
    rw [appOps_eq, show lays js s ++ [none, some (js.en, headB js.recs.length js.gen s), none] = (lays js s ++ [none]) ++ [some (js.en, headB js.recs.length js.gen s), none] by simp, effs_append, ← pad_head]
    rfl
  have hs2 : (effs st (appOps js s)).su = (effs st (appOps js s)).no ∧ (effs st (appOps js s)).lo = [] := by
    have e : appOps js s = (lays js s ++ [none, some (js.en, headB js.recs.length js.gen s)]) ++ [none] := by rw [appOps_eq]; simp
    have hG2 : Good (effs st (lays js s ++ [none, some (js.en, headB js.recs.length js.gen s)])) := h.hf.good.effs (fun o ho => h.fine hr o (by rw [e]; exact List.mem_append_left _ ho))
    rw [e, effs_append]
    exact ⟨hG2.settle, rfl⟩
  have hlen : (effs st (appOps js s)).no.length = st.no.length := effs_len _ _
  have hh : (effs st (appOps js s)).no[js.en]? = some (headL js.recs.length js.gen s) := by rw [hs, List.getElem?_set_self (by rw [hM.len]; omega)]
  have hd : ∀ i, i < (s.size + 63) / 64 → (effs st (appOps js s)).no[js.en + 1 + i]? = some (pad (chunkB s i)) := fun i hi => by rw [hs, List.getElem?_set_ne (by omega)]; exact hM.data i hi
  have hz : (effs st (appOps js s)).no[js.en + needN s.size]? = some zer := by rw [hs, List.getElem?_set_ne (by unfold needN; omega)]; exact hM.fin
  have hlow : ∀ i, i < js.en → (effs st (appOps js s)).no[i]? = st.no[i]? := fun i hi => by rw [hs, List.getElem?_set_ne (by omega)]; exact hM.low i (by omega)
  have e2 : enOf a (js.recs ++ [s]) = js.en + needN s.size := by rw [enOf_snoc, ← h.en]
  refine ⟨⟨hF.n64, hs2.1, hs2.2, rfl, by show js.lim ≤ _; show js.lim ≤ (effs st (appOps js s)).no.length; rw [hlen]; exact hl, h.hf.al, ?_, ?_⟩, by rw [e2], hz, h.dead⟩
  · refine chainL_snoc _ _ _ (chain_agree h.hf.d64 hl js.recs 0 a h.hf.chain (fun i _ h2 => hlow i (by rw [h.en]; exact h2))) ?_
    rw [← h.en, Nat.zero_add]
    exact nextRec_laid r1 r2 hh hd
  · show NH ((effs st (appOps js s)).no.getD (enOf a (js.recs ++ [s])) [])
    rw [e2, List.getD_eq_getElem?_getD, hz]
    exact zer_nh
/-- The power goes in an Append: a crash leaves the records, or them and the one under way. -/
theorem Jn.torn (h : Jn st js a) (hr : (s.size : Int) ≤ leftI js) {i : Nat} (hi : i < (appOps js s).length) (keep : List Int) :
    Hf (crashS (effs st ((appOps js s).take i)) keep) js.lim js.gen a js.recs ∨ Hf (crashS (effs st ((appOps js s).take i)) keep) js.lim js.gen a (js.recs ++ [s]) := by
  obtain ⟨r1, r2⟩ := room_of hr
  have hl := h.hf.bd
  have hfine := h.fine hr
  have hX : Good (effs st ((appOps js s).take i)) := h.hf.good.effs (fun o ho => hfine o (List.mem_of_mem_take ho))
  have hlen : (effs st ((appOps js s).take i)).no.length = st.no.length := effs_len _ _
  have hzD : st.no.getD js.en [] = zer := by rw [List.getD_eq_getElem?_getD, h.zero]; rfl
  have hL := lays_len js s
  by_cases h1 : i ≤ needN s.size
  · left
    have e : (appOps js s).take i = (lays js s).take i := by rw [appOps_eq, List.take_append_of_le_length (by omega)]
    rw [e] at hX hlen ⊢
    obtain ⟨p1, p2, p3⟩ := puts_out (st := st) (l := (lays js s).take i) (en := js.en) (n := st.no.length) (fun o ho => lays_puts (by omega) o (List.mem_of_mem_take ho))
    have ho : ∀ x ∈ (effs st ((lays js s).take i)).lo, js.en < x.1 := fun x hx => by
      rcases p2 x hx with h3 | h3
      · rw [h.hf.lo] at h3; cases h3
      · exact h3
    refine h.hf.crashed hX hlen (fun j hj => by rw [p1, h.hf.su]) (fun x hx => by have := ho x hx; have := h.en; omega) keep ?_
    rw [List.getD_eq_getElem?_getD, tearL_out keep _ 0 _ _ (fun x hx e => by have := ho x hx; have := h.en; omega), p1, h.hf.su, ← List.getD_eq_getElem?_getD]
    exact h.hf.nh
  · have hM := h.mid hr
    have hlen2 : (appOps js s).length = needN s.size + 3 := by rw [appOps_eq, List.length_append, hL]; rfl
    by_cases h2 : i = needN s.size + 1
    · left
      have e : (appOps js s).take i = lays js s ++ [none] := by rw [appOps_eq, List.take_append, hL, List.take_of_length_le (by omega), show i - needN s.size = 1 by omega]; rfl
      rw [e] at hX hlen ⊢
      refine h.hf.crashed hX hlen (fun j hj => by rw [hM.su]; exact hM.low j (by have := h.en; omega)) (fun x hx => by rw [hM.lo] at hx; cases hx) keep ?_
      rw [hM.lo, hM.su]
      show NH ((effs st (lays js s ++ [none])).no.getD (enOf a js.recs) [])
      rw [List.getD_eq_getElem?_getD, hM.low _ (by have := h.en; omega), ← List.getD_eq_getElem?_getD]
      exact h.hf.nh
    · have h3 : i = needN s.size + 2 := by omega
      have e : (appOps js s).take i = (lays js s ++ [none]) ++ [some (js.en, headB js.recs.length js.gen s)] := by rw [appOps_eq, List.take_append, hL, List.take_of_length_le (by omega), show i - needN s.size = 2 by omega]; simp
      rw [e] at hX hlen ⊢
      have eX : effs st ((lays js s ++ [none]) ++ [some (js.en, headB js.recs.length js.gen s)]) = eff (effs st (lays js s ++ [none])) (some (js.en, headB js.recs.length js.gen s)) := by rw [effs_append]; rfl
      rw [eX] at hX hlen ⊢
      obtain ⟨X, hXe⟩ : ∃ X, effs st (lays js s ++ [none]) = X := ⟨_, rfl⟩
      rw [hXe] at hM hX hlen ⊢
      have hsu : (eff X (some (js.en, headB js.recs.length js.gen s))).su = X.no := hM.su
      have hlo : (eff X (some (js.en, headB js.recs.length js.gen s))).lo = [(js.en, headL js.recs.length js.gen s)] := by
        show X.lo ++ [(js.en, pad (headB js.recs.length js.gen s))] = _
        rw [hM.lo, pad_head]; rfl
      have hXz : X.no[js.en]? = some zer := (hM.low _ (Nat.le_refl _)).trans h.zero
      have ht : tearL keep 0 [(js.en, headL js.recs.length js.gen s)] X.no = X.no.set js.en (tear zer (headL js.recs.length js.gen s) (kOf keep 0)) := by
        show X.no.set js.en (tear (X.no.getD js.en []) (headL js.recs.length js.gen s) (kOf keep 0)) = _
        rw [List.getD_eq_getElem?_getD, hXz]; rfl
      rcases tear_head (headL_len js.recs.length js.gen s) (kOf_le keep 0) with hk | hk
      · right
        rw [hk] at ht
        have hno : (crashS (eff X (some (js.en, headB js.recs.length js.gen s))) keep) = { su := X.no.set js.en (headL js.recs.length js.gen s), no := X.no.set js.en (headL js.recs.length js.gen s), lo := [], fu := -1, off := false } := by
          rw [hX.crash, hsu, hlo, ht]
        rw [hno]
        have hlX : X.no.length = st.no.length := hM.len
        have e2 : enOf a (js.recs ++ [s]) = js.en + needN s.size := by rw [enOf_snoc, ← h.en]
        have d64 : ∀ d ∈ X.no.set js.en (headL js.recs.length js.gen s), d.length = 64 := fun d hd => by
          rcases List.mem_or_eq_of_mem_set hd with hd | rfl
          · exact hM.good.n64 d hd
          · exact headL_len _ _ _
        refine ⟨d64, rfl, rfl, rfl, by show js.lim ≤ (X.no.set _ _).length; rw [List.length_set, hlX]; exact hl, h.hf.al, ?_, ?_⟩
        · refine chainL_snoc _ _ _ (chain_agree h.hf.d64 hl js.recs 0 a h.hf.chain (fun j _ h2 => by
            show (X.no.set _ _)[j]? = _
            rw [List.getElem?_set_ne (by have := h.en; omega)]
            exact hM.low j (by have := h.en; omega))) ?_
          rw [← h.en, Nat.zero_add]
          refine nextRec_laid r1 r2 (by show (X.no.set _ _)[_]? = _; rw [List.getElem?_set_self (by rw [hlX]; omega)]) (fun j hj => ?_)
          show (X.no.set _ _)[_]? = _
          rw [List.getElem?_set_ne (by omega)]
          exact hM.data j hj
        · show NH ((X.no.set js.en _).getD (enOf a (js.recs ++ [s])) [])
          rw [e2, List.getD_eq_getElem?_getD, List.getElem?_set_ne (by unfold needN; omega), hM.fin]
          exact zer_nh
      · left
        refine h.hf.crashed hX hlen (fun j hj => by rw [hsu]; exact hM.low j (by have := h.en; omega)) (fun x hx => by rw [hlo] at hx; simp at hx; subst hx; have := h.en; show _ ≤ js.en; omega) keep ?_
        rw [hlo, hsu, ht, ← h.en, List.getD_eq_getElem?_getD, List.getElem?_set_self (by rw [hM.len]; omega)]
        exact hk
end
end Go.Proofs.YtdebfnlnpfienaaGreatDoor

/- Openings, wherever the power goes: plain. -/
namespace Go.Proofs.YtdebfnlnpfienaaGreatDoor
open Go.RowKit Lift
set_option linter.unusedSimpArgs false
set_option linter.unusedVariables false

theorem all_zer {d : List UInt8} (h : d.length = 64) (ha : d.all (· == 0) = true) : d = zer := by
  rw [List.all_eq_true] at ha
  exact List.eq_replicate_iff.2 ⟨h, fun b hb => by simpa using ha b hb⟩
theorem zer_all : zer.all (· == 0) = true := by decide
section
variable {st : St} {a sz gen : Nat} {recs : List ByteArray}
theorem Hf.at (h : Hf st (a + sz) gen a recs) : st.no[enOf a recs]? = some (st.no.getD (enOf a recs) []) ∧ (st.no.getD (enOf a recs) []).length = 64 := by
  have h1 := h.enl; have h2 := h.bd
  have e : st.no[enOf a recs]? = some (st.no.getD (enOf a recs) []) := by
    rw [List.getD_eq_getElem?_getD, List.getElem?_eq_getElem (by omega)]; rfl
  exact ⟨e, h.d64 _ (List.mem_of_getElem? e)⟩
theorem Hf.found (h : Hf st (a + sz) gen a recs) : openL st (JSt.new a sz gen) = (recs, enOf a recs) := by
  have h1 := h.enl
  have h2 := enOf_ge recs a
  have := found_chain (nx := nextRec st.no (a + sz) gen) recs (a + sz) [] a h.chain (by omega) (nextRec_nh h.nh)
  rw [List.nil_append] at this
  exact this
theorem Hf.js (h : Hf st (a + sz) gen a recs) : openJ st (JSt.new a sz gen) = { lim := a + sz, gen := gen, recs := recs, en := enOf a recs, dead := false } := by
  unfold openJ; rw [h.found]; rfl
theorem clear_fine {n en : Nat} (h : en < n) : ∀ o ∈ clearOps en, FineStep n o := by
  intro o ho
  unfold clearOps at ho
  simp at ho
  rcases ho with rfl | rfl
  · exact ⟨h, by decide⟩
  · trivial
theorem Hf.opened (h : Hf st (a + sz) gen a recs) :
    ((openR st (JSt.new a sz gen)).2 = 0 ∧ Jn (openR st (JSt.new a sz gen)).1 (openJ st (JSt.new a sz gen)) a ∧ (st.fu < 0 → (openR st (JSt.new a sz gen)).1.fu = st.fu) ∧ (st.no[enOf a recs]? = some zer → (openR st (JSt.new a sz gen)).1 = st)) ∨
    ((openR st (JSt.new a sz gen)).2 = 12 ∧ 0 ≤ st.fu ∧ st.no[enOf a recs]? ≠ some zer ∧ ∀ keep, Hf (crashS (openR st (JSt.new a sz gen)).1 keep) (a + sz) gen a recs) := by
  obtain ⟨at1, at2⟩ := h.at
  have hl := h.enl
  have hbd := h.bd
  have e : openR st (JSt.new a sz gen) = runOps st (openOps st.no (enOf a recs)) := by
    unfold openR; rw [h.found, h.off]; rfl
  rw [e, h.js]
  unfold openOps allZ
  by_cases hz : (st.no.getD (enOf a recs) []).all (· == 0) = true
  · rw [if_pos hz]
    left
    have hd := all_zer at2 hz
    exact ⟨rfl, ⟨h, rfl, by show st.no[enOf a recs]? = _; rw [at1, hd], rfl⟩, fun _ => rfl, fun _ => rfl⟩
  · rw [if_neg hz]
    have hnz : st.no[enOf a recs]? ≠ some zer := by
      rw [at1]
      intro h'
      injection h' with h'
      rw [h'] at hz
      exact hz zer_all
    have hfine : ∀ o ∈ clearOps (enOf a recs), FineStep st.no.length o := clear_fine (by omega)
    rcases run_cases (clearOps (enOf a recs)) st h.off hfine with ⟨f, hf, hr⟩ | ⟨h0, i, hi, hr⟩
    · left
      rw [hr]
      have hG : Good (effs st (clearOps (enOf a recs))) := h.good.effs hfine
      have hno : (effs st (clearOps (enOf a recs))).no = st.no.set (enOf a recs) zer := rfl
      have hG1 : Good (eff st (some (enOf a recs, ⟨#[]⟩))) := h.good.eff (o := some (enOf a recs, ⟨#[]⟩)) ⟨by omega, by decide⟩
      have hsu : (effs st (clearOps (enOf a recs))).su = st.no.set (enOf a recs) zer := hG1.settle
      have hlen : (st.no.set (enOf a recs) zer).length = st.no.length := List.length_set
      have hat : (st.no.set (enOf a recs) zer)[enOf a recs]? = some zer := List.getElem?_set_self (by omega)
      refine ⟨rfl, ⟨⟨hG.n64, hsu, rfl, rfl, by show a + sz ≤ (st.no.set (enOf a recs) zer).length; rw [hlen]; exact hbd, h.al, ?_, ?_⟩, rfl, hat, rfl⟩, fun hn => hf hn, fun hn => absurd hn hnz⟩
      · exact chain_agree h.d64 hbd recs 0 a h.chain (fun j _ h2 => by
          show (st.no.set (enOf a recs) zer)[j]? = _
          rw [List.getElem?_set_ne (by omega)])
      · show NH ((st.no.set (enOf a recs) zer).getD (enOf a recs) [])
        rw [List.getD_eq_getElem?_getD, hat]
        exact zer_nh
    · right
      rw [hr]
      refine ⟨rfl, h0, hnz, fun keep => ?_⟩
      show Hf (crashS (effs st ((clearOps (enOf a recs)).take i)) keep) (a + sz) gen a recs
      have hi2 : i = 0 ∨ i = 1 := by simp [clearOps] at hi; omega
      rcases hi2 with rfl | rfl
      · refine h.crashed h.good rfl (fun j hj => by show st.su[j]? = _; rw [h.su]) (fun x hx => by exfalso; have hx2 : x ∈ st.lo := hx; rw [h.lo] at hx2; cases hx2) keep ?_
        show NH ((tearL keep 0 st.lo st.su).getD _ _)
        rw [h.lo, h.su]
        exact h.nh
      · have hG1 : Good (eff st (some (enOf a recs, ⟨#[]⟩))) := h.good.eff (o := some (enOf a recs, ⟨#[]⟩)) ⟨by omega, by decide⟩
        have hlo : (eff st (some (enOf a recs, ⟨#[]⟩))).lo = [(enOf a recs, zer)] := by
          show st.lo ++ [(enOf a recs, pad ⟨#[]⟩)] = _
          rw [h.lo, pad_none]; rfl
        show Hf (crashS (eff st (some (enOf a recs, ⟨#[]⟩))) keep) (a + sz) gen a recs
        refine h.crashed hG1 (eff_len _ _) (fun j hj => by show st.su[j]? = _; rw [h.su]) (fun x hx => by rw [hlo] at hx; simp at hx; subst hx; exact Nat.le_refl _) keep ?_
        rw [hlo]
        show NH ((st.su.set (enOf a recs) (tear (st.su.getD (enOf a recs) []) zer (kOf keep 0))).getD (enOf a recs) [])
        rw [h.su, List.getD_eq_getElem?_getD (l := List.set _ _ _), List.getElem?_set_self (by omega)]
        exact tear_zer at2 h.nh (kOf_le _ _)
/-- With another generation it has no records. -/
theorem Hf.other {gen' : Nat} (h : Hf st (a + sz) gen a recs) (h1 : gen < 4294967296) (h2 : gen' < 4294967296) (hne : gen' ≠ gen) (hf : st.fu < 0) : (openJ st (JSt.new a sz gen')).recs = [] ∧ (openR st (JSt.new a sz gen')).2 = 0 := by
  have hn : nextRec st.no (a + sz) gen' 0 a = none := by
    cases recs with
    | nil => exact nextRec_nh (by have := h.nh; rwa [enOf_nil] at this)
    | cons s r =>
      have hs := (nextRec_some h.d64 h.bd h.chain.1).2.2.2.2
      unfold nextRec
      rw [if_neg]
      rintro ⟨_, _, h3⟩
      rw [← hs] at h3
      exact hne (head_gen h2 h1 h3)
  have hL : openL st (JSt.new a sz gen') = ([], a) := foundL_none hn
  refine ⟨by unfold openJ; rw [hL], ?_⟩
  unfold openR
  rw [hL, h.off]
  have hal := h.al; have hbd := h.bd
  show (runOps st (openOps st.no a)).2 = 0
  have hfine : ∀ o ∈ openOps st.no a, FineStep st.no.length o := by
    unfold openOps
    split
    · simp
    · exact clear_fine (by omega)
  rcases run_cases _ st h.off hfine with ⟨f, _, hr⟩ | ⟨h0, _⟩
  · rw [hr]
  · omega
theorem Jn.made {js : JSt} (h : Jn st js a) : js = { lim := js.lim, gen := js.gen, recs := js.recs, en := enOf a js.recs, dead := false } := by
  obtain ⟨lim, gen, recs, en, dead⟩ := js
  have h1 := h.en; have h2 := h.dead
  simp only at h1 h2
  rw [h1, h2]
end
/-! ### Append as a call -/
section
variable {st : St} {js : JSt} {a : Nat}
theorem Jn.wf (h : Jn st js a) (f : Int) : Jn (wf st f false) js a := ⟨h.hf.wf f, h.en, h.zero, h.dead⟩
def moreJ (js : JSt) (s : ByteArray) : JSt := { js with recs := js.recs ++ [s], en := js.en + needN s.size }
theorem Jn.appF (h : Jn st js a) (s : ByteArray) :
    (leftI js < s.size ∧ appE st js s = 4 ∧ appS st js s = st ∧ appJ st js s = js) ∨
    ((s.size : Int) ≤ leftI js ∧ appE st js s = 0 ∧ Jn (appS st js s) (moreJ js s) a ∧ appJ st js s = moreJ js s ∧ (st.fu < 0 → (appS st js s).fu = st.fu)) ∨
    ((s.size : Int) ≤ leftI js ∧ appE st js s = 12 ∧ 0 ≤ st.fu ∧ ∀ keep, Hf (crashS (appS st js s) keep) js.lim js.gen a js.recs ∨ Hf (crashS (appS st js s) keep) js.lim js.gen a (js.recs ++ [s])) := by
  by_cases hl : leftI js < s.size
  · left
    unfold appE appS appJ
    rw [h.dead]
    simp [hl]
  · right
    have hl2 : (s.size : Int) ≤ leftI js := by omega
    have eE : appE st js s = (runOps st (appOps js s)).2 := by unfold appE; rw [h.dead]; simp [hl]
    have eS : appS st js s = (runOps st (appOps js s)).1 := by unfold appS; rw [h.dead]; simp [hl]
    have eJ : appJ st js s = if (runOps st (appOps js s)).2 = 0 then moreJ js s else { js with dead := true } := by unfold appJ; simp [hl, moreJ, h.dead]
    rw [eE, eS, eJ]
    rcases run_cases (appOps js s) st h.hf.off (h.fine hl2) with ⟨f, hf, hr⟩ | ⟨h0, i, hi, hr⟩
    · left
      rw [hr]
      exact ⟨hl2, rfl, h.done hl2 f, rfl, fun hn => hf hn⟩
    · right
      rw [hr]
      exact ⟨hl2, rfl, h0, fun keep => h.torn hl2 hi keep⟩
theorem appS_len (s : ByteArray) : (appS st js s).no.length = st.no.length := by
  unfold appS
  split
  · rfl
  · split
    · rfl
    · exact runOps_len _ _
theorem Jn.app (h : Jn st js a) (hf : st.fu < 0) (s : ByteArray) :
    Jn (appS st js s) (appJ st js s) a ∧ (appS st js s).fu = st.fu ∧ ((leftI js < s.size ∧ appE st js s = 4 ∧ appS st js s = st ∧ appJ st js s = js) ∨ ((s.size : Int) ≤ leftI js ∧ appE st js s = 0 ∧ appJ st js s = moreJ js s)) := by
  rcases h.appF s with ⟨h1, h2, h3, h4⟩ | ⟨h1, h2, h3, h4, h5⟩ | ⟨_, _, h3, _⟩
  · rw [h3, h4]; exact ⟨h, rfl, .inl ⟨h1, h2, rfl, rfl⟩⟩
  · rw [h4]; exact ⟨h3, h5 hf, .inr ⟨h1, h2, rfl⟩⟩
  · omega
end

/-! ### begun -/
def begT (p : St × JSt) (s : ByteArray) : St × JSt := if s.size ≤ 300 then (appS p.1 p.2 s, appJ p.1 p.2 s) else p
def beg0 : St × JSt := ((runOps (St.new 40) (clearOps 1)).1, JSt.new 1 38 7)
def begL (l : List ByteArray) : St × JSt := l.foldl begT beg0
structure BInv (st : St) (js : JSt) : Prop where
  jn : Jn st js 1
  lim : js.lim = 39
  gen : js.gen = 7
  len : st.no.length = 40
  fu : st.fu = -1
theorem beg0_run : runOps (St.new 40) (clearOps 1) = (beg0.1, 0) := by
  rcases run_cases (clearOps 1) (St.new 40) rfl (clear_fine (by simp [St.new])) with ⟨f, hf, hr⟩ | ⟨h0, _⟩
  · unfold beg0; rw [hr]
  · simp [St.new] at h0
theorem beg0_inv : BInv beg0.1 beg0.2 := by
  rcases run_cases (clearOps 1) (St.new 40) rfl (clear_fine (by simp [St.new])) with ⟨f, hf, hr⟩ | ⟨h0, _⟩
  · have e : beg0.1 = wf (effs (St.new 40) (clearOps 1)) f false := by unfold beg0; rw [hr]
    have hf1 : f = -1 := hf (by simp [St.new])
    have hG : Good (effs (St.new 40) (clearOps 1)) := (Good.new 40).effs (clear_fine (by simp [St.new]))
    have hz : (effs (St.new 40) (clearOps 1)).no[1]? = some zer := by
      show ((List.replicate 40 zer).set 1 zer)[1]? = _
      rw [List.getElem?_set_self (by simp)]
    have hG1 : Good (eff (St.new 40) (some (1, ⟨#[]⟩))) := (Good.new 40).eff (o := some (1, ⟨#[]⟩)) ⟨by simp [St.new], by decide⟩
    have hl : (effs (St.new 40) (clearOps 1)).no.length = 40 := by rw [effs_len]; simp [St.new]
    rw [e, hf1]
    refine ⟨⟨⟨hG.n64, hG1.settle, rfl, rfl, by show 39 ≤ (effs (St.new 40) (clearOps 1)).no.length; omega, by decide, trivial, ?_⟩, rfl, hz, rfl⟩, rfl, rfl, hl, rfl⟩
    show NH ((effs (St.new 40) (clearOps 1)).no.getD 1 [])
    rw [List.getD_eq_getElem?_getD, hz]
    exact zer_nh
  · simp [St.new] at h0
theorem appJ_same {st : St} {js : JSt} (s : ByteArray) : (appJ st js s).lim = js.lim ∧ (appJ st js s).gen = js.gen := by
  unfold appJ; repeat' split
  all_goals exact ⟨rfl, rfl⟩
theorem BInv.app {st : St} {js : JSt} (h : BInv st js) (s : ByteArray) : BInv (appS st js s) (appJ st js s) := by
  obtain ⟨h1, h2, _⟩ := h.jn.app (by rw [h.fu]; decide) s
  obtain ⟨e1, e2⟩ := appJ_same (st := st) (js := js) s
  exact ⟨h1, by rw [e1, h.lim], by rw [e2, h.gen], by rw [appS_len, h.len], by rw [h2, h.fu]⟩
theorem BInv.t {p : St × JSt} (h : BInv p.1 p.2) (s : ByteArray) : BInv (begT p s).1 (begT p s).2 := by
  unfold begT
  split
  · exact h.app s
  · exact h
theorem begL_inv : ∀ (l : List ByteArray) {p : St × JSt}, BInv p.1 p.2 → BInv (l.foldl begT p).1 (l.foldl begT p).2
  | [], _, h => h
  | s :: r, p, h => begL_inv r (h.t s)
theorem BInv.recs {st : St} {js : JSt} (h : BInv st js) (s : ByteArray) : (appE st js s = 0 ∧ (appJ st js s).recs = js.recs ++ [s]) ∨ (appE st js s = 4 ∧ (appJ st js s).recs = js.recs) := by
  obtain ⟨_, _, h3⟩ := h.jn.app (by rw [h.fu]; decide) s
  rcases h3 with ⟨_, h2, _, h4⟩ | ⟨_, h2, h4⟩
  · right; exact ⟨h2, by rw [h4]⟩
  · left; exact ⟨h2, by rw [h4]; rfl⟩
theorem begT_snoc (l : List ByteArray) (k : Nat) (c : ByteArray) (h : l[k]? = some c) : begL (l.take (k + 1)) = begT (begL (l.take k)) c := by
  unfold begL; rw [take_at2 h, List.foldl_append]; rfl
theorem appJ_recs_le {st : St} {js : JSt} (s : ByteArray) : (appJ st js s).recs.length ≤ js.recs.length + 1 := by
  unfold appJ; repeat' split
  all_goals simp
theorem begL_recs : ∀ (l : List ByteArray) (p : St × JSt), (l.foldl begT p).2.recs.length ≤ p.2.recs.length + l.length
  | [], p => by simp
  | s :: r, p => by
    have h1 := begL_recs r (begT p s)
    have h2 : (begT p s).2.recs.length ≤ p.2.recs.length + 1 := by
      unfold begT
      split
      · exact appJ_recs_le s
      · omega
    simp only [List.foldl_cons, List.length_cons]; omega
end Go.Proofs.YtdebfnlnpfienaaGreatDoor

/- begun: a journal with some records. -/
namespace Go.Proofs.YtdebfnlnpfienaaGreatDoor
open Go.RowKit Lift
set_option linter.unusedSimpArgs false
set_option linter.unusedVariables false

/-- A plate, a journal, and a list of texts of the law's own, apart from each other. -/
structure Trio (base : Nat) (w : World) (F : Fp) (st : St) (J : JF) (js : JSt) (v : Value) (l : List ByteArray) : Prop where
  jr : JRaw base w F st J js
  own : Lift.Own Rd.str (fun _ => True) w base 9 v l
  ap : ∀ k, v.ownBlock = some k → ¬ jfoot F J k
section
variable {base : Nat} {w w' : World} {F : Fp} {st : St} {J : JF} {js : JSt} {v : Value} {l : List ByteArray}
theorem Trio.below (h : Trio base w F st J js v l) (hb : Below w.heap.size w w') : Trio base w' F st J js v l := ⟨h.jr.below hb, h.own.below hb, h.ap⟩
theorem Trio.post (h : Trio base w F st J js v l) {st' : St} {js' : JSt} {u : Value} {e : Ending} (hp : JPost base F J st' js' u w e w') : e = .returned u ∧ ∃ F' J', Trio base w' F' st' J' js' v l ∧ F'.b = F.b ∧ J'.b = J.b ∧ Below base w w' := by
  obtain ⟨F', J', he, hj, h1, h2, h3, hk⟩ := hp
  refine ⟨he, F', J', ⟨hj, h.own.flat str_flat hk (fun k e hf => h.ap k e hf), fun k e hf => ?_⟩, h1, h2, hk.below h.jr.raw.base_le (fun k hf => h.jr.ge k hf)⟩
  rcases h3 k hf with h3 | h3
  · exact h.ap k e h3
  · have := (h.own.lt k e).2; omega
theorem Trio.push (h : Trio base w F st J js v l) {v2 : Value} {l2 : List ByteArray} (hO : Lift.Own Rd.str (fun _ => True) w' base 9 v2 l2) (hk : Kept (fun k => some k = v.ownBlock) w w') (hw : v2.ownBlock = v.ownBlock ∨ ∃ g, v2.ownBlock = some g ∧ w.heap.size < g) : Trio base w' F st J js v2 l2 ∧ Below base w w' := by
  refine ⟨⟨h.jr.kept hk (fun k hf e => h.ap k e.symm hf), hO, fun k e hf => ?_⟩, hk.below h.jr.raw.base_le (fun k e => (h.own.lt k e.symm).1)⟩
  rcases hw with hw | ⟨g, hw, hg⟩
  · rw [hw] at e; exact h.ap k e hf
  · rw [hw] at e; injection e with e; subst e
    have := h.jr.inb _ hf; omega
end
def BegunPost (st : St) (js : JSt) (w : World) (e : Ending) (w' : World) : Prop :=
  ∃ F J ao cap, e = .returned (.tuple #[.pointer (some ⟨F.b, 0, none⟩), .pointer (some ⟨J.b, 0, none⟩), .slice ao js.recs.length cap]) ∧ Trio w.heap.size w' F st J js (.slice ao js.recs.length cap) js.recs ∧ Below w.heap.size w w'
theorem new40 (w : World) : Calls Tryz.prog 6 #[.int .i64 40] w (NewV (St.new 40) w) := pl_new w 40 40 rfl (by omega) (by omega)
end Go.Proofs.YtdebfnlnpfienaaGreatDoor

/- works: what the laws of a journal try first. -/
namespace Go.Proofs.YtdebfnlnpfienaaGreatDoor
open Go.RowKit Lift
set_option linter.unusedSimpArgs false
set_option linter.unusedVariables false

section
variable {base : Nat} {w w' : World} {F : Fp} {st st' : St} {J : JF} {js js2 : JSt} {v : Value} {l : List ByteArray} {e : Ending}
/-- The journal opened once more, beside the old one. -/
theorem Trio.made (h : Trio base w F st J js v l) (hM : MadePost base F st' 0 js2 w e w') (hl : st'.no.length = st.no.length) :
    ∃ F' J2, e = .returned (.tuple #[.pointer (some ⟨J2.b, 0, none⟩), .int .i64 0]) ∧ Trio base w' F' st' J js v l ∧ Trio base w' F' st' J2 js2 v l ∧ F'.b = F.b ∧ Below base w w' := by
  unfold MadePost at hM
  rw [if_pos rfl] at hM
  obtain ⟨F', J2, he, hJ, hb, hf, hK⟩ := hM
  have hf1 : ∀ k, foot F' k → foot F k ∨ w.heap.size ≤ k := fun k hk => hf k (.inl hk)
  have hown : Lift.Own Rd.str (fun _ => True) w' base 9 v l := h.own.flat str_flat hK (fun k e hf => h.ap k e (.inl hf))
  refine ⟨F', J2, he, ⟨h.jr.plate hJ.raw hb hf1 hK hl, hown, fun k e hj => ?_⟩, ⟨hJ, hown, fun k e hj => ?_⟩, hb, hK.below h.jr.raw.base_le (fun k hf => h.jr.raw.ge k hf)⟩
  · rcases hj with hj | hj
    · rcases hf1 k hj with hj | hj
      · exact h.ap k e (.inl hj)
      · have := (h.own.lt k e).2; omega
    · exact h.ap k e (.inr hj)
  · rcases hf k hj with hj | hj
    · exact h.ap k e (.inl hj)
    · have := (h.own.lt k e).2; omega
end
def aB : ByteArray := ⟨#[97]⟩
theorem works_beg : (begL ([aB].take 10)).2.recs = [aB] ∧ leftI (begL ([aB].take 10)).2 = 2176 := by
  have e : begL ([aB].take 10) = (appS beg0.1 beg0.2 aB, appJ beg0.1 beg0.2 aB) := by
    show begT beg0 aB = _
    unfold begT; rw [if_pos (by decide)]
  rw [e]
  obtain ⟨_, _, h⟩ := beg0_inv.jn.app (by rw [beg0_inv.fu]; decide) aB
  have h0 : leftI beg0.2 = 2304 := by decide
  have h1 : (aB.size : Int) = 1 := by decide
  rcases h with ⟨h, _⟩ | ⟨_, _, h⟩
  · omega
  · simp only [h]
    exact ⟨rfl, by decide⟩
/-- What opening a journal again finds, at a plate that has power. -/
theorem BInv.opened {st : St} {js : JSt} (h : BInv st js) (f : Int) : openR (wf st f false) (JSt.new 1 38 7) = (wf st f false, 0) ∧ (openJ (wf st f false) (JSt.new 1 38 7)) = js := by
  obtain ⟨lim, gen, recs, en, dead⟩ := js
  obtain ⟨⟨hf, hen, hz, hd⟩, hl, hg, _, _⟩ := h
  simp only at hl hg hen hz hd
  subst hl; subst hg; subst hd
  have hH : Hf (wf st f false) (1 + 38) 7 1 recs := hf.wf f
  refine ⟨?_, by rw [hH.js, hen]⟩
  rcases hH.opened with ⟨h1, _, _, h2⟩ | ⟨_, _, h3, _⟩
  · have := h2 (by rw [hen] at hz; exact hz)
    exact Prod.ext this h1
  · rw [hen] at hz; exact absurd hz h3
theorem St.wf_self (st : St) (h : st.off = false) : wf st st.fu false = st := by
  obtain ⟨su, no, lo, fu, off⟩ := st
  simp only at h
  subst h
  rfl
theorem BInv.opened0 {st : St} {js : JSt} (h : BInv st js) : openR st (JSt.new 1 38 7) = (st, 0) ∧ openJ st (JSt.new 1 38 7) = js := by
  have := h.opened st.fu
  rwa [st.wf_self h.jn.hf.off] at this
theorem one_str (w : World) (c : ByteArray) (h : c.size ≤ maxTx) : SlAt Rd.str (· < (w.alloc (.cells #[.string c] 9)).heap.size) (w.alloc (.cells #[.string c] 9)) (some ⟨w.heap.size, 0, none⟩) [c] := .inr ⟨w.heap.size, 0, rfl, by simp, by simp, fun k c' hk => by
    match k, hk with
    | 0, hk =>
      cases hk
      refine ⟨_, ⟨rfl, h⟩, fun i v hi => ?_⟩
      match i, hi with
      | 0, hi => cases hi; simp [go_sem]
      | i + 1, hi => simp at hi
    | k + 1, hk => simp at hk⟩
theorem need65 (w : World) : Calls Tryz.prog 33 #[.int .i64 65] w (IntPost .i64 3 w) := by
  have := need_any 65 (Wf.of (by omega) (by omega)) w
  rwa [show needI 65 = 3 by decide] at this
end Go.Proofs.YtdebfnlnpfienaaGreatDoor
