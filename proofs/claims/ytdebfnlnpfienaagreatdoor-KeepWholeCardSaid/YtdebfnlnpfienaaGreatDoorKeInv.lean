/- A keep whose power never goes: its calls are done, or refused for want of room (no program in sight). -/
import Derived.Test.YtdebfnlnpfienaaGreatDoorKe14
import Derived.Test.YtdebfnlnpfienaaGreatDoorKe11
import Derived.Test.YtdebfnlnpfienaaGreatDoorJnF
namespace Go.Proofs.YtdebfnlnpfienaaGreatDoor
open Go.RowKit Lift
set_option linter.unusedSimpArgs false
set_option linter.unusedVariables false

/-- A plate with power for ever, nothing loose. -/
structure Calm (st : St) : Prop where
  off : st.off = false
  fu : st.fu = -1
  lo : st.lo = []
theorem run_calm {st : St} (h1 : st.off = false) (h2 : st.fu = -1) {l : List Step} (hf : ∀ o ∈ l, FineStep st.no.length o) : runOps st l = (wf (effs st l) (-1) false, 0) := by
  rcases run_cases l st h1 hf with ⟨f, hf1, hr⟩ | ⟨h, _⟩
  · rw [hr, hf1 (by omega), h2]
  · omega
theorem effs_snoc (st : St) (l : List Step) : (effs st (l ++ [none])).lo = [] := by rw [effs_append]; rfl
theorem calm_run {st : St} (h : Calm st) {l : List Step} (hf : ∀ o ∈ l ++ [none], FineStep st.no.length o) : (runOps st (l ++ [none])).2 = 0 ∧ Calm (runOps st (l ++ [none])).1 ∧ (runOps st (l ++ [none])).1.no.length = st.no.length := by
  have := run_calm h.off h.fu hf
  refine ⟨by rw [this], ?_, runOps_len _ _⟩
  rw [this]
  exact ⟨rfl, rfl, effs_snoc st l⟩
theorem sure_fine {n : Nat} {s : ByteArray} (hs : s.size ≤ 64) {l : List Nat} (hl : ∀ a ∈ l, a < n) : ∀ o ∈ sureOps s l, FineStep n o := by
  intro o ho
  rcases List.mem_append.1 ho with ho | ho
  · obtain ⟨a, ha, rfl⟩ := List.mem_map.1 ho
    exact ⟨hl a ha, hs⟩
  · simp at ho; subst ho; trivial
theorem app_fine {n : Nat} {js : JSt} {s : ByteArray} (hr : (s.size : Int) ≤ leftI js) (hl : js.lim ≤ n) : ∀ o ∈ appOps js s, FineStep n o := by
  obtain ⟨r1, r2⟩ := room_of hr
  intro o ho
  rw [appOps_eq] at ho
  rcases List.mem_append.1 ho with ho | ho
  · exact (lays_puts (by omega) o ho).fine
  · simp at ho
    rcases ho with rfl | rfl | rfl
    · trivial
    · exact ⟨by omega, by show (headB _ _ _).size ≤ 64; show (headL _ _ _).toArray.size ≤ 64; simp [headL_len]⟩
    · trivial
theorem app_calm {st : St} {js : JSt} {s : ByteArray} (h : Calm st) (hd : js.dead = false) (hr : (s.size : Int) ≤ leftI js) (hl : js.lim ≤ st.no.length) :
    appE st js s = 0 ∧ Calm (appS st js s) ∧ (appS st js s).no.length = st.no.length ∧ appJ st js s = { js with recs := js.recs ++ [s], en := js.en + needN s.size } := by
  have he : appOps js s = (lays js s ++ [none, some (js.en, headB js.recs.length js.gen s)]) ++ [none] := by rw [appOps_eq]; simp
  have hf := app_fine hr hl
  rw [he] at hf
  obtain ⟨h1, h2, h3⟩ := calm_run h hf
  rw [← he] at h1 h2 h3
  have hn : ¬ (leftI js < (s.size : Int)) := by omega
  simp only [appE, appS, appJ, hd, Bool.false_eq_true, if_false, if_neg hn, h1, if_true]
  exact ⟨trivial, h2, h3, trivial⟩
/-- What stays true while a keep's power stays. -/
structure KInv (n : Nat) (st : St) (js : JSt) (ks : KSt) : Prop where
  calm : Calm st
  len : st.no.length = n
  jd : js.dead = false
  kd : ks.dead = false
  jg : js.gen = ks.gen
  lim : js.lim = plcN st ks.gen + halfN st
  low : plcN st ks.gen ≤ js.en
  gn : ks.gen < 4294967296
  few : 4 * ks.kv.length ≤ 64 * (js.en - plcN st ks.gen)
  keys : ∀ p ∈ ks.kv, 1 ≤ p.1.size
section
variable {n : Nat} {st : St} {js : JSt} {ks : KSt}
theorem plc_le (st : St) (g : Nat) (h : 10 ≤ st.no.length) : 2 ≤ plcN st g ∧ plcN st g + halfN st ≤ st.no.length ∧ 4 ≤ halfN st := by
  unfold plcN halfN
  rcases (by omega : g % 2 = 0 ∨ g % 2 = 1) with h | h <;> rw [h] <;> omega
theorem KInv.few2 (h : KInv n st js ks) (he : js.en < js.lim) (hn : n ≤ 82) : ks.kv.length < 1000 := by
  have h1 := h.few
  have h2 := h.lim
  have h3 : halfN st ≤ 40 := by unfold halfN; rw [h.len]; omega
  omega
theorem plc_len {st st2 : St} (h : st2.no.length = st.no.length) (g : Nat) : plcN st2 g = plcN st g ∧ halfN st2 = halfN st := by
  unfold plcN halfN; rw [h]; exact ⟨rfl, rfl⟩
theorem all_cost (L : List KV) : ((L.map asPut).map wrCost).sum = L.length := by
  induction L with
  | nil => rfl
  | cons p r ih => simp [asPut, wrCost] at ih ⊢; omega
theorem all_few (hk : ∀ p ∈ ks.kv, 1 ≤ p.1.size) : 4 * ks.kv.length + 1 ≤ (allB ks.kv).size := by
  have h1 := recL_len (l := ks.kv.map asPut) (fun w hw => by obtain ⟨p, hp, rfl⟩ := List.mem_map.1 hw; exact hk p hp)
  rw [all_cost] at h1
  unfold allB
  rw [recB_size]; omega
theorem need_big (m : Nat) : m + 64 ≤ 64 * needN m := by unfold needN; omega
/-- All is laid anew, or there is no room. -/
theorem anew_calm (h : KInv n st js ks) (hn : 10 ≤ n) : (anewR st js ks = ⟨st, js, ks, 4⟩ ∧ roomI st 0 < (allB ks.kv).size) ∨
    (((allB ks.kv).size : Int) ≤ roomI st 0 ∧ (anewR st js ks).er = 0 ∧ (anewR st js ks).ks = { ks with gen := nxt ks.gen } ∧ KInv n (anewR st js ks).st (anewR st js ks).js (anewR st js ks).ks ∧ (anewR st js ks).js.en = plcN st (nxt ks.gen) + needN (allB ks.kv).size ∧ (anewR st js ks).st.no.length = st.no.length) := by
  by_cases hr : roomI st 0 < ((allB ks.kv).size : Int)
  · exact .inl ⟨by unfold anewR; rw [if_pos hr], hr⟩
  · right
    refine ⟨by omega, ?_⟩
    have hlen := h.len
    obtain ⟨p1, p2, p3⟩ := plc_le st (nxt ks.gen) (by omega)
    have hg : nxt ks.gen < 4294967296 := by unfold nxt; omega
    -- the four steps
    obtain ⟨a1, a2, a3⟩ := calm_run (l := [some (plcN st (nxt ks.gen), ⟨#[]⟩)]) h.calm (clear_fine (n := st.no.length) (en := plcN st (nxt ks.gen)) (by omega))
    change (runOps st (clearOps (plcN st (nxt ks.gen)))).2 = 0 at a1
    change Calm (runOps st (clearOps (plcN st (nxt ks.gen)))).1 at a2
    change (runOps st (clearOps (plcN st (nxt ks.gen)))).1.no.length = st.no.length at a3
    have hlf : ((allB ks.kv).size : Int) ≤ leftI (JSt.new (plcN st (nxt ks.gen)) (halfN st) (nxt ks.gen)) := by
      unfold roomI at hr
      unfold leftI JSt.new
      simp only
      omega
    obtain ⟨b1, b2, b3, b4⟩ := app_calm (js := JSt.new (plcN st (nxt ks.gen)) (halfN st) (nxt ks.gen)) (s := allB ks.kv) a2 rfl hlf (by rw [a3]; exact p2)
    have hrun3 := calm_run (l := [some (nxt ks.gen % 2, rootB (nxt ks.gen))]) b2 (sure_fine (s := rootB (nxt ks.gen)) (by rw [rootB_size]; omega) (l := [nxt ks.gen % 2]) (fun a ha => by simp at ha; omega))
    obtain ⟨c1, c2, c3⟩ := hrun3
    change (runOps _ (sureOps (rootB (nxt ks.gen)) [nxt ks.gen % 2])).2 = 0 at c1
    change Calm (runOps _ (sureOps (rootB (nxt ks.gen)) [nxt ks.gen % 2])).1 at c2
    change (runOps _ (sureOps (rootB (nxt ks.gen)) [nxt ks.gen % 2])).1.no.length = _ at c3
    have hrun4 := calm_run (l := [some (1 - nxt ks.gen % 2, emB)]) c2 (sure_fine (s := emB) (by decide) (l := [1 - nxt ks.gen % 2]) (fun a ha => by simp at ha; omega))
    obtain ⟨d1, d2, d3⟩ := hrun4
    change (runOps _ (sureOps emB [1 - nxt ks.gen % 2])).2 = 0 at d1
    change Calm (runOps _ (sureOps emB [1 - nxt ks.gen % 2])).1 at d2
    change (runOps _ (sureOps emB [1 - nxt ks.gen % 2])).1.no.length = _ at d3
    obtain ⟨X, hX⟩ : ∃ X, (runOps (runOps (appS (runOps st (clearOps (plcN st (nxt ks.gen)))).1 (JSt.new (plcN st (nxt ks.gen)) (halfN st) (nxt ks.gen)) (allB ks.kv)) (sureOps (rootB (nxt ks.gen)) [nxt ks.gen % 2])).1 (sureOps emB [1 - nxt ks.gen % 2])).1 = X := ⟨_, rfl⟩
    have e : anewR st js ks = ⟨X, { lim := plcN st (nxt ks.gen) + halfN st, gen := nxt ks.gen, recs := [allB ks.kv], en := plcN st (nxt ks.gen) + needN (allB ks.kv).size, dead := false }, { ks with gen := nxt ks.gen }, 0⟩ := by
      unfold anewR
      rw [if_neg hr]
      unfold anew1
      rw [if_pos a1]
      unfold anew2
      rw [if_pos b1]
      unfold anew3
      rw [if_pos c1]
      unfold anew4
      rw [if_pos d1, hX, b4]
      simp [JSt.new]
    rw [hX] at d2 d3
    have hXl : X.no.length = st.no.length := d3.trans (c3.trans (b3.trans a3))
    obtain ⟨q1, q2⟩ := plc_len hXl (nxt ks.gen)
    rw [e]
    have hfew := all_few h.keys
    have hnb := need_big (allB ks.kv).size
    refine ⟨rfl, rfl, ⟨d2, by simp only; omega, rfl, h.kd, rfl, by simp only [q1, q2], by simp only [q1]; omega, hg, ?_, h.keys⟩, rfl, hXl⟩
    simp only [q1]
    omega
/-- A Compact. -/
theorem comp_calm (h : KInv n st js ks) (hn : 10 ≤ n) : (compR st js ks = ⟨st, js, ks, 4⟩) ∨
    ((compR st js ks).er = 0 ∧ (compR st js ks).ks = { ks with gen := nxt ks.gen } ∧ KInv n (compR st js ks).st (compR st js ks).js (compR st js ks).ks) := by
  have e : compR st js ks = anewR st js ks := by unfold compR; rw [h.kd]; simp
  rw [e]
  rcases anew_calm h hn with ⟨h1, _⟩ | ⟨_, h1, h2, h3, _⟩
  · exact .inl h1
  · exact .inr ⟨h1, h2, h3⟩
theorem foldl_few : ∀ (l : List KW) (L : List KV), (l.foldl kdo L).length ≤ L.length + (l.map wrCost).sum
  | [], L => by simp
  | c :: r, L => by
    have h1 := foldl_few r (kdo L c)
    have h2 := kdo_len c L
    have h3 : (if c.2.2 = true then 0 else 1 : Nat) = wrCost c := rfl
    simp only [List.foldl_cons, List.map_cons, List.sum_cons]; omega
theorem foldl_keys : ∀ (l : List KW) (L : List KV), (∀ p ∈ L, 1 ≤ p.1.size) → (∀ c ∈ l, 1 ≤ c.1.size) → ∀ p ∈ l.foldl kdo L, 1 ≤ p.1.size
  | [], L, h, _ => h
  | c :: r, L, h, hc => foldl_keys r (kdo L c) (fun p hp => by
      rcases kdo_mem hp with hp | ⟨_, rfl⟩
      · exact h p hp
      · exact hc c (List.mem_cons_self ..)) (fun d hd => hc d (List.mem_cons_of_mem _ hd))
theorem right_keys {l : List KW} (h : l.any (fun c => !rightW c) = false) : ∀ c ∈ l, 1 ≤ c.1.size := fun c hc => by
  have h1 := (List.any_eq_false.1 h) c hc
  have h2 : rightW c = true := by cases hr : rightW c <;> simp_all
  simp only [rightW, Bool.and_eq_true, Bool.not_eq_true', decide_eq_false_iff_not] at h2
  have := h2.1.1.1
  omega
/-- An Append of writes in a calm keep. -/
theorem fin_calm (h : KInv n st js ks) (hn : 10 ≤ n) {l : List KW} (hb : l.any (fun c => !rightW c) = false) (hr : ((recB l).size : Int) ≤ leftI js) :
    (comF st js ks l).er = 0 ∧ (comF st js ks l).ks = ks.doing l ∧ KInv n (comF st js ks l).st (comF st js ks l).js (comF st js ks l).ks := by
  have hlen := h.len
  obtain ⟨p1, p2, p3⟩ := plc_le st ks.gen (by omega)
  obtain ⟨b1, b2, b3, b4⟩ := app_calm h.calm h.jd hr (by rw [h.lim]; omega)
  have hk := right_keys hb
  have e : comF st js ks l = ⟨appS st js (recB l), { js with recs := js.recs ++ [recB l], en := js.en + needN (recB l).size }, ks.doing l, 0⟩ := by
    unfold comF; rw [if_pos b1, b4]
  rw [e]
  obtain ⟨q1, q2⟩ := plc_len b3 ks.gen
  refine ⟨rfl, rfl, ⟨b2, by simp only; omega, h.jd, h.kd, h.jg, by simp only [KSt.doing, q1, q2]; exact h.lim, by have := h.low; simp only [KSt.doing, q1]; omega, h.gn, ?_, foldl_keys l ks.kv h.keys hk⟩⟩
  have h1 := foldl_few l ks.kv
  have h2 := recL_len hk
  have h3 := need_big (recB l).size
  rw [recB_size] at h3
  have h4 := h.few
  have h5 := h.low
  simp only [KSt.doing, q1]
  rw [recB_size]
  omega
/-- A Commit. -/
theorem com_calm (h : KInv n st js ks) (hn : 10 ≤ n) (l : List KW) :
    (∃ er, er ≠ 0 ∧ comR st js ks l = ⟨st, js, ks, er⟩) ∨
    ((comR st js ks l).er = 0 ∧ (comR st js ks l).ks.kv = l.foldl kdo ks.kv ∧ (comR st js ks l).ks.cnt = ks.cnt + l.length ∧ KInv n (comR st js ks l).st (comR st js ks l).js (comR st js ks l).ks) := by
  unfold comR
  rw [h.kd]
  simp only [Bool.false_eq_true, if_false]
  by_cases hb : badC l = true
  · rw [if_pos hb]; exact .inl ⟨3, by omega, rfl⟩
  · rw [if_neg hb]
    have hb2 : l.any (fun c => !rightW c) = false := by
      cases ha : l.any (fun c => !rightW c) with
      | false => rfl
      | true => exact absurd (by unfold badC; rw [ha]; simp) hb
    by_cases hl : leftI js < ((recB l).size : Int)
    · rw [if_pos hl]
      by_cases hr : roomI st 0 < ((allB ks.kv).size : Int) ∨ roomI st (needI (allB ks.kv).size) < ((recB l).size : Int)
      · rw [if_pos hr]; exact .inl ⟨4, by omega, rfl⟩
      · rw [if_neg hr]
        have hr1 : ¬ roomI st 0 < ((allB ks.kv).size : Int) := fun hh => hr (.inl hh)
        have hr2 : ¬ roomI st (needI (allB ks.kv).size) < ((recB l).size : Int) := fun hh => hr (.inr hh)
        rcases anew_calm h hn with ⟨_, h1⟩ | ⟨_, h1, h2, h3, h4, h5⟩
        · exact absurd h1 hr1
        · right
          unfold comN
          rw [if_pos h1]
          have hsz : (allB ks.kv).size ≤ 1048576 := by unfold roomI at hr1; omega
          have hlim := h3.lim
          rw [h2] at hlim h3 ⊢
          simp only at hlim
          obtain ⟨q1, q2⟩ := plc_len h5 (nxt ks.gen)
          rw [q1, q2] at hlim
          have hfit : ((recB l).size : Int) ≤ leftI (anewR st js ks).js := by
            rw [needI_nat hsz] at hr2
            unfold roomI at hr2
            unfold leftI
            rw [hlim, h4]
            omega
          obtain ⟨f1, f2, f3⟩ := fin_calm h3 hn hb2 hfit
          exact ⟨f1, by rw [f2]; rfl, by rw [f2]; rfl, f3⟩
    · rw [if_neg hl]
      right
      obtain ⟨f1, f2, f3⟩ := fin_calm h hn hb2 (by omega)
      exact ⟨f1, by rw [f2]; rfl, by rw [f2]; rfl, f3⟩
end
end Go.Proofs.YtdebfnlnpfienaaGreatDoor
