/- What is printed is read: plain laws of lines. -/
import Derived.Test.YtioeobkneikgfaaPrPure
namespace Go.Proofs.Ytioeobkneikgfaa
open Go.RowKit Lift
set_option linter.unusedSimpArgs false
set_option linter.unusedVariables false

theorem at_mid {α : Type} (P A R : List α) (j : Nat) (h1 : P.length ≤ j) (h2 : j < P.length + A.length) : (P ++ (A ++ R))[j]? = A[j - P.length]? := by
  rw [List.getElem?_append_right h1, List.getElem?_append_left (by omega)]
theorem findL_at {s : ByteArray} {P A R : List UInt8} {c : UInt8} {b : Nat} (hs : s.data.toList = P ++ (A ++ c :: R)) (hb : P.length + A.length < b) (hb2 : b ≤ s.size) (hA : c ∉ A) : findL s P.length b c = P.length + A.length := by
  refine findL_hit s _ b _ c (by omega) hb hb2 ?_ ?_
  · rw [hs, List.getElem?_append_right (by omega), List.getElem?_append_right (by omega)]
    simp
  · intro j h1 h2 h
    rw [hs, at_mid _ _ _ _ h1 h2] at h
    exact hA (List.mem_of_getElem? h)
theorem findL_no {s : ByteArray} {P A R : List UInt8} {c : UInt8} (hs : s.data.toList = P ++ (A ++ R)) (hA : c ∉ A) : findL s P.length (P.length + A.length) c = P.length + A.length := by
  have hz : P.length + A.length ≤ s.size := by
    have := congrArg List.length hs
    simp only [List.length_append] at this
    have h2 : s.data.toList.length = s.size := by simp
    omega
  refine findL_miss s _ _ c (by omega) hz ?_
  intro j h1 h2 h
  rw [hs, at_mid _ _ _ _ h1 h2] at h
  exact hA (List.mem_of_getElem? h)
theorem extract_mid {s : ByteArray} {P A R : List UInt8} (hs : s.data.toList = P ++ (A ++ R)) : s.extract P.length (P.length + A.length) = ⟨A.toArray⟩ := by
  apply ByteArray.ext; apply Array.toList_inj.1
  rw [ByteArray.data_extract, Array.toList_extract, hs]
  simp only [List.extract_eq_take_drop]
  rw [List.drop_append_of_le_length (Nat.le_refl _), List.drop_length, List.nil_append, Nat.add_sub_cancel_left, List.take_append_of_le_length (Nat.le_refl _), List.take_length]
theorem toB_list (s : ByteArray) : (⟨s.data.toList.toArray⟩ : ByteArray) = s := by
  apply ByteArray.ext; apply Array.toList_inj.1; simp

/-- No small letters. -/
def capS (s : ByteArray) : Bool := s.data.toList.all (fun c => decide (¬ (97 ≤ c.toNat ∧ c.toNat ≤ 122)))
theorem upS_cap {s : ByteArray} (h : capS s = true) : upS s = s := by
  have hm : s.data.toList.map upB = s.data.toList := by
    unfold capS at h
    rw [List.all_eq_true] at h
    exact (List.map_congr_left (g := id) (fun c hc => upB_out (of_decide_eq_true (h c hc)))).trans (List.map_id _)
  unfold upS
  rw [hm]
theorem capS_upS (s : ByteArray) : capS (upS s) = true := by
  unfold capS upS
  rw [List.all_eq_true]
  intro c hc
  simp only [List.mem_map] at hc
  obtain ⟨d, _, rfl⟩ := hc
  rw [decide_eq_true_eq]
  by_cases hd : 97 ≤ d.toNat ∧ d.toNat ≤ 122
  · have := upB_in hd.1 hd.2; omega
  · rw [upB_out hd]; exact hd
theorem name_cap {s : ByteArray} (h : isName s = true) : capS s = true := by
  unfold isName at h
  rw [Bool.and_eq_true] at h
  unfold capS
  rw [List.all_eq_true]
  intro c hc
  have := List.all_eq_true.1 h.2 c hc
  unfold nameB at this
  rw [decide_eq_true_eq] at this ⊢
  omega
theorem name_no {s : ByteArray} (h : isName s = true) : (58 : UInt8) ∉ s.data.toList ∧ (59 : UInt8) ∉ s.data.toList ∧ (46 : UInt8) ∉ s.data.toList ∧ (61 : UInt8) ∉ s.data.toList := by
  unfold isName at h
  rw [Bool.and_eq_true] at h
  have hn : ∀ k : UInt8, nameB k.toNat = false → k ∉ s.data.toList := fun k hk hm => by have := List.all_eq_true.1 h.2 k hm; rw [hk] at this; cases this
  exact ⟨hn 58 (by decide), hn 59 (by decide), hn 46 (by decide), hn 61 (by decide)⟩
theorem value_no {s : ByteArray} (h : isValue s = true) : (58 : UInt8) ∉ s.data.toList ∧ (59 : UInt8) ∉ s.data.toList ∧ (61 : UInt8) ∉ s.data.toList := by
  unfold isValue at h
  rw [Bool.and_eq_true] at h
  have hn : ∀ k : UInt8, valB k.toNat = false → k ∉ s.data.toList := fun k hk hm => by have := List.all_eq_true.1 h.2 k hm; rw [hk] at this; cases this
  exact ⟨hn 58 (by decide), hn 59 (by decide), hn 61 (by decide)⟩

def bodyL (c : Par) : List UInt8 := (if c.1.size = 0 then [] else c.1.data.toList ++ [61]) ++ c.2.data.toList
theorem parL_body (c : Par) : parL c = 59 :: bodyL c := rfl
/-- A parameter that is read as it is printed. -/
def goodPar (c : Par) : Prop := isPar c = true ∧ (c.1.size = 0 → capS c.2 = true)
theorem par_name {c : Par} (h : isPar c = true) (h0 : c.1.size ≠ 0) : isName c.1 = true := by
  unfold isPar at h
  rw [Bool.and_eq_true, Bool.or_eq_true, decide_eq_true_eq] at h
  exact h.1.resolve_left h0
theorem par_value {c : Par} (h : isPar c = true) : isValue c.2 = true := by
  unfold isPar at h; rw [Bool.and_eq_true] at h; exact h.2
theorem body_no {c : Par} (h : isPar c = true) : (58 : UInt8) ∉ bodyL c ∧ (59 : UInt8) ∉ bodyL c := by
  have hv := value_no (par_value h)
  unfold bodyL
  split
  · rw [List.nil_append]; exact ⟨hv.1, hv.2.1⟩
  · rename_i h0
    have hn := name_no (par_name h h0)
    simp only [List.mem_append, List.mem_singleton, not_or]
    exact ⟨⟨⟨hn.1, by decide⟩, hv.1⟩, ⟨hn.2.1, by decide⟩, hv.2.1⟩
theorem data_len (s : ByteArray) : s.data.toList.length = s.size := by simp
theorem size_zero {s : ByteArray} (h : s.size = 0) : s = ⟨#[]⟩ := by
  apply ByteArray.ext; apply Array.toList_inj.1
  exact List.eq_nil_of_length_eq_zero (by rw [data_len]; exact h)
theorem par_back {s : ByteArray} {P R : List UInt8} {c : Par} (hs : s.data.toList = P ++ (bodyL c ++ R)) (h : goodPar c) : parX s P.length (P.length + (bodyL c).length) = c ∧ okX s P.length (P.length + (bodyL c).length) = true := by
  obtain ⟨hp, hc⟩ := h
  have hf := isPar_fits hp
  have hz : P.length + (bodyL c).length ≤ s.size := by
    have := congrArg List.length hs
    simp only [List.length_append] at this
    rw [data_len] at this; omega
  by_cases h0 : c.1.size = 0
  · have hb : bodyL c = c.2.data.toList := by unfold bodyL; rw [if_pos h0]; rfl
    have hno : (61 : UInt8) ∉ bodyL c := by rw [hb]; exact (value_no (par_value hp)).2.2
    have hF := findL_no hs hno
    have hX : parX s P.length (P.length + (bodyL c).length) = c := by
      unfold parX
      rw [hF, if_neg (by omega), extract_mid hs, hb, toB_list, upS_cap (hc h0), ← size_zero h0]
    refine ⟨hX, ?_⟩
    have hbl : (bodyL c).length = c.2.size := by rw [hb, data_len]
    unfold okX
    rw [hX, hF, hp, Bool.true_and, decide_eq_true_eq]
    omega
  · have hb : bodyL c = c.1.data.toList ++ (61 :: c.2.data.toList) := by unfold bodyL; rw [if_neg h0]; simp
    have hn := par_name hp h0
    have hbl : (bodyL c).length = c.1.size + 1 + c.2.size := by rw [hb]; simp; omega
    have hs2 : s.data.toList = P ++ (c.1.data.toList ++ 61 :: (c.2.data.toList ++ R)) := by rw [hs, hb]; simp
    have hF := findL_at (b := P.length + (bodyL c).length) hs2 (by rw [data_len]; omega) hz (name_no hn).2.2.2
    rw [data_len] at hF
    have hs3 : s.data.toList = (P ++ (c.1.data.toList ++ [61])) ++ (c.2.data.toList ++ R) := by rw [hs2]; simp
    have e1 := extract_mid (A := c.1.data.toList) (R := 61 :: (c.2.data.toList ++ R)) hs2
    have e2 := extract_mid hs3
    rw [data_len, toB_list] at e1
    rw [data_len, toB_list] at e2
    have hX : parX s P.length (P.length + (bodyL c).length) = c := by
      unfold parX
      rw [hF, if_pos (by omega), e1, upS_cap (name_cap hn)]
      have h2 : (P ++ (c.1.data.toList ++ [61])).length = P.length + c.1.size + 1 := by simp; omega
      rw [h2] at e2
      rw [show P.length + (bodyL c).length = P.length + c.1.size + 1 + c.2.size by omega, e2]
    refine ⟨hX, ?_⟩
    unfold okX
    rw [hX, hF, hp, Bool.true_and, decide_eq_true_eq]
    omega
theorem step_back {s g n : ByteArray} {E S a : Nat} {ps : List Par} {c : Par} (hl : ps.length < 6) (hF : findL s a E 59 = S) (hX : parX s a S = c) (hO : okX s a S = true) : moreP s E g n ps a true = moreP s E g n (ps ++ [c]) (S + 1) (decide (S < E)) := by
  rw [moreP_step _ _ _ _ _ _ hl, hF, hX, hO, if_neg (by decide)]
set_option maxHeartbeats 1000000 in
theorem pars_back {s g n : ByteArray} {V : List UInt8} {E : Nat} (l : List Par) : ∀ (ps : List Par) (P : List UInt8) (c : Par), s.data.toList = P ++ (bodyL c ++ (l.flatMap parL ++ 58 :: V)) → (∀ x ∈ c :: l, goodPar x) → ps.length + l.length + 1 ≤ 6 → E = P.length + ((bodyL c).length + (l.flatMap parL).length) →
    moreP s E g n ps P.length true = tailP s E g n (ps ++ c :: l) := by
  induction l with
  | nil =>
    intro ps P c hs hg hl hE
    have hgc := hg c (by simp)
    have hE2 : P.length + (bodyL c).length = E := by rw [hE]; simp
    have hF := findL_no (c := 59) hs (body_no hgc.1).2
    rw [hE2] at hF
    obtain ⟨hX, hO⟩ := par_back hs hgc
    rw [hE2] at hX hO
    rw [step_back (by simp at hl; omega) hF hX hO, decide_eq_false (by omega : ¬ E < E)]
    rfl
  | cons d l ih =>
    intro ps P c hs hg hl hE
    have hgc := hg c (by simp)
    have hEz : E ≤ s.size := by
      have := congrArg List.length hs
      simp only [List.length_append] at this
      rw [data_len] at this; omega
    have hs2 : s.data.toList = P ++ (bodyL c ++ 59 :: (bodyL d ++ (l.flatMap parL ++ 58 :: V))) := by rw [hs]; simp [parL_body]
    have hdl : ((d :: l).flatMap parL).length = (bodyL d).length + 1 + (l.flatMap parL).length := by rw [List.flatMap_cons, List.length_append, parL_body, List.length_cons]
    have hlt : P.length + (bodyL c).length < E := by omega
    have hF := findL_at hs2 hlt hEz (body_no hgc.1).2
    obtain ⟨hX, hO⟩ := par_back hs hgc
    have hl2 : ps.length + (l.length + 1) + 1 ≤ 6 := by simpa using hl
    rw [step_back (by omega) hF hX hO, decide_eq_true hlt]
    have hPl : (P ++ (bodyL c ++ [59])).length = P.length + (bodyL c).length + 1 := by simp; omega
    have h1 := ih (ps ++ [c]) (P ++ (bodyL c ++ [59])) d (by rw [hs2]; simp) (fun x hx => hg x (List.mem_cons_of_mem _ hx)) (by rw [List.length_append, List.length_singleton]; omega) (by omega)
    rw [hPl] at h1
    rw [h1, List.append_assoc]; rfl
theorem noAny_all {l : List UInt8} (h : ∀ b ∈ l, oddB b.toNat = false) : Lib.indexAny l [0, 10, 13] = -1 := by
  refine Lib.indexAny_none ?_
  intro j b _ hb
  have := h b (List.mem_of_getElem? hb)
  rw [← this]
  unfold oddB
  rw [Bool.eq_iff_iff, decide_eq_true_eq]
  have h : ∀ k : UInt8, (b = k ↔ b.toNat = k.toNat) := fun k => UInt8.toNat_inj.symm
  simp only [List.contains_cons, List.contains_nil, Bool.or_eq_true, beq_iff_eq, Bool.or_false]
  exact or_congr (h 0) (or_congr (h 10) (h 13))
/-- THERE AND BACK: a right property's line is read as it was. -/
theorem line_back {g n : ByteArray} {l : List Par} {v : ByteArray} (h : chkP g n l v 0 = 0) (hc : ∀ c ∈ l, c.1.size = 0 → capS c.2 = true) : readP ⟨(lineL g n l v).toArray⟩ = ((g, n, l, v), 0, 0) := by
  obtain ⟨h1, h2, h3, h4, _, h6, h7⟩ := chk_ok h
  have hg : ∀ c ∈ l, goodPar c := fun c hx => ⟨h4 c hx, hc c hx⟩
  obtain ⟨s, hs⟩ : ∃ s : ByteArray, (⟨(lineL g n l v).toArray⟩ : ByteArray) = s := ⟨_, rfl⟩
  have hsl : s.data.toList = preL g ++ n.data.toList ++ l.flatMap parL ++ [58] ++ v.data.toList := by rw [← hs]; simp [lineL]
  rw [hs]
  have hsz : s.size = (preL g).length + n.size + (l.flatMap parL).length + 1 + v.size := by
    rw [← data_len, hsl]; simp [data_len]; omega
  have hpre : (58 : UInt8) ∉ preL g ∧ (59 : UInt8) ∉ preL g := by
    unfold preL
    split
    · simp
    · rename_i h0
      have := name_no (h1.resolve_left h0)
      simp only [List.mem_append, List.mem_singleton, not_or]
      exact ⟨⟨this.1, by decide⟩, this.2.1, by decide⟩
  have hn := name_no h2
  have hpars : (58 : UInt8) ∉ l.flatMap parL := by
    intro hm
    obtain ⟨c, hc1, hc2⟩ := List.mem_flatMap.1 hm
    rw [parL_body, List.mem_cons] at hc2
    rcases hc2 with h | h
    · exact absurd h (by decide)
    · exact (body_no (h4 c hc1)).1 h
  -- the head's end
  have e1 : findL s 0 s.size 58 = (preL g ++ n.data.toList ++ l.flatMap parL).length := by
    have := findL_at (s := s) (P := []) (A := preL g ++ n.data.toList ++ l.flatMap parL) (R := v.data.toList) (c := 58) (b := s.size) (by rw [hsl]; simp) (by simp [hsz, data_len]; omega) (Nat.le_refl _)
      (by simp only [List.mem_append, not_or]; exact ⟨⟨hpre.1, hn.1⟩, hpars⟩)
    simpa using this
  obtain ⟨E, hE⟩ : ∃ E, (preL g ++ n.data.toList ++ l.flatMap parL).length = E := ⟨_, rfl⟩
  have hE2 : E = (preL g).length + n.size + (l.flatMap parL).length := by rw [← hE]; simp [data_len]; omega
  have hEs : E < s.size := by omega
  rw [hE] at e1
  -- the name's end
  have hno59 : (59 : UInt8) ∉ preL g ++ n.data.toList := by simp only [List.mem_append, not_or]; exact ⟨hpre.2, hn.2.1⟩
  have e2 : findL s 0 E 59 = (preL g).length + n.size := by
    cases l with
    | nil =>
      have := findL_no (s := s) (P := []) (A := preL g ++ n.data.toList) (R := 58 :: v.data.toList) (c := 59) (by rw [hsl]; simp) hno59
      simp [data_len] at this hE2
      rw [hE2]; exact this
    | cons c l =>
      have := findL_at (s := s) (P := []) (A := preL g ++ n.data.toList) (R := bodyL c ++ (l.flatMap parL ++ 58 :: v.data.toList)) (c := 59) (b := E) (by rw [hsl]; simp [parL_body]) (by simp [data_len, hE2, parL_body]) (by omega) hno59
      simpa [data_len] using this
  have e3 : s.extract (E + 1) s.size = v := by
    have := extract_mid (s := s) (P := preL g ++ n.data.toList ++ l.flatMap parL ++ [58]) (A := v.data.toList) (R := []) (by rw [hsl]; simp)
    have hl1 : (preL g ++ n.data.toList ++ l.flatMap parL ++ [58]).length = E + 1 := by rw [List.length_append, hE]; rfl
    rw [data_len, toB_list, hl1] at this
    rw [show s.size = E + 1 + v.size by omega]; exact this
  have hT : ∀ ps, tailP s E g n ps = ((g, n, ps, v), 0, 0) := by
    intro ps
    unfold tailP oddAt
    rw [e3, if_neg (by omega), noAny_all h7, if_neg (by decide)]
  have hM : moreP s E g n [] ((preL g).length + n.size + 1) (decide ((preL g).length + n.size < E)) = ((g, n, l, v), 0, 0) := by
    cases l with
    | nil =>
      rw [decide_eq_false (by simp at hE2; omega)]
      exact hT []
    | cons c l =>
      rw [decide_eq_true (by rw [hE2]; simp [parL_body])]
      have := pars_back (s := s) (g := g) (n := n) (V := v.data.toList) (E := E) l [] (preL g ++ n.data.toList ++ [59]) c (by rw [hsl]; simp [parL_body]) hg (by simp at h3 ⊢; omega) (by rw [hE2]; simp [parL_body, data_len]; omega)
      have hl2 : (preL g ++ n.data.toList ++ [59]).length = (preL g).length + n.size + 1 := by simp [data_len]; omega
      rw [hl2] at this
      rw [this, hT]; rfl
  unfold readP
  rw [e1, if_pos hEs, e2]
  by_cases h0 : g.size = 0
  · have hp : preL g = [] := by unfold preL; rw [if_pos h0]
    rw [hp] at hsl hE2 hM ⊢
    simp only [List.length_nil, Nat.zero_add] at hM ⊢
    have e4 : findL s 0 n.size 46 = n.size := by
      have := findL_no (s := s) (P := []) (A := n.data.toList) (R := l.flatMap parL ++ 58 :: v.data.toList) (c := 46) (by rw [hsl]; simp) hn.2.2.1
      simpa [data_len] using this
    have e5 : s.extract 0 n.size = n := by
      have := extract_mid (s := s) (P := []) (A := n.data.toList) (R := l.flatMap parL ++ 58 :: v.data.toList) (by rw [hsl]; simp)
      simpa [data_len, toB_list] using this
    rw [e4, if_neg (by omega)]
    unfold nameP
    rw [e5, upS_cap (name_cap h2), h2, if_neg (by decide), ← size_zero h0, hM]
  · have hp : preL g = g.data.toList ++ [46] := by unfold preL; rw [if_neg h0]
    have hgn := h1.resolve_left h0
    have hpl : (preL g).length = g.size + 1 := by rw [hp]; simp [data_len]
    rw [hpl] at hM hE2 e2 ⊢
    rw [hp] at hsl
    have e4 : findL s 0 (g.size + 1 + n.size) 46 = g.size := by
      have := findL_at (s := s) (P := []) (A := g.data.toList) (R := n.data.toList ++ (l.flatMap parL ++ 58 :: v.data.toList)) (c := 46) (b := g.size + 1 + n.size) (by rw [hsl]; simp) (by simp [data_len]; omega) (by omega) (name_no hgn).2.2.1
      simpa [data_len] using this
    have e5 : s.extract 0 g.size = g := by
      have := extract_mid (s := s) (P := []) (A := g.data.toList) (R := 46 :: (n.data.toList ++ (l.flatMap parL ++ 58 :: v.data.toList))) (by rw [hsl]; simp)
      simpa [data_len, toB_list] using this
    have e6 : s.extract (g.size + 1) (g.size + 1 + n.size) = n := by
      have := extract_mid (s := s) (P := g.data.toList ++ [46]) (A := n.data.toList) (R := l.flatMap parL ++ 58 :: v.data.toList) (by rw [hsl]; simp)
      simpa [data_len, toB_list] using this
    rw [e4, if_pos (by omega), e5, upS_cap (name_cap hgn), hgn, if_neg (by decide)]
    unfold nameP
    rw [e6, upS_cap (name_cap h2), h2, if_neg (by decide), hM]

/-! ### What is read is right, and its line is as long. -/
theorem tail_ok {s g n g' n' v : ByteArray} {E a : Nat} {ps l : List Par} (h : tailP s E g n ps = ((g', n', l, v), a, 0)) : g' = g ∧ n' = n ∧ l = ps ∧ v = s.extract (E + 1) s.size ∧ v.size ≤ 2400 ∧ ∀ b ∈ v.data.toList, oddB b.toNat = false := by
  unfold tailP at h
  split at h
  · exact absurd (congrArg (fun x : PR => x.2.2) h) (by simp [fail4])
  rename_i h1
  split at h
  · exact absurd (congrArg (fun x : PR => x.2.2) h) (by simp [fail4])
  rename_i h2
  obtain ⟨⟨rfl, rfl, rfl, rfl⟩, _, _⟩ : (g = g' ∧ n = n' ∧ ps = l ∧ s.extract (E + 1) s.size = v) ∧ 0 = a ∧ (0 : Int) = 0 := by
    simpa using h
  refine ⟨rfl, rfl, rfl, rfl, by omega, fun b hb => ?_⟩
  cases hq : oddB b.toNat
  · rfl
  · exfalso
    have h3 := odd_any3 (s.extract (E + 1) s.size)
    rw [List.any_eq_true.2 ⟨b, hb, hq⟩] at h3
    unfold Lib.containsAny at h3
    exact h2 (of_decide_eq_true h3)
theorem parX_ok {s : ByteArray} {a b : Nat} (h1 : a ≤ b) (h2 : b ≤ s.size) (h : okX s a b = true) : goodPar (parX s a b) ∧ (bodyL (parX s a b)).length = b - a := by
  have hle := findL_le s a b 61 h1 h2
  unfold okX at h
  rw [Bool.and_eq_true, decide_eq_true_eq] at h
  obtain ⟨hp, hq⟩ := h
  by_cases hb : findL s a b 61 < b
  · have e : parX s a b = (upS (s.extract a (findL s a b 61)), s.extract (findL s a b 61 + 1) b) := by unfold parX; rw [if_pos hb]
    have hz1 : (upS (s.extract a (findL s a b 61))).size = findL s a b 61 - a := by rw [upS_size, seg_size s (by omega)]
    have hz2 : (s.extract (findL s a b 61 + 1) b).size = b - (findL s a b 61 + 1) := seg_size s h2
    refine ⟨⟨hp, fun h0 => ?_⟩, ?_⟩
    · rw [e] at h0; simp only at h0; omega
    · unfold bodyL
      rw [e]
      simp only
      rw [if_neg (by omega)]
      simp only [List.length_append, data_len, List.length_singleton]
      omega
  · have e : parX s a b = (⟨#[]⟩, upS (s.extract a b)) := by unfold parX; rw [if_neg hb]
    refine ⟨⟨hp, fun _ => by rw [e]; exact capS_upS _⟩, ?_⟩
    unfold bodyL
    rw [e]
    simp only
    rw [if_pos (by rfl), List.nil_append, data_len, upS_size, seg_size s h2]
theorem pars_ok {s g n g' n' v : ByteArray} {E a : Nat} {l : List Par} (hE : E ≤ s.size) : ∀ (f : Nat) (b : Nat) (ps : List Par), b ≤ E → ps.length ≤ 6 → 7 ≤ f + ps.length → parsP s E g n f b ps = ((g', n', l, v), a, 0) →
    ∃ m : List Par, l = ps ++ m ∧ (∀ c ∈ m, goodPar c) ∧ (m.flatMap parL).length = E + 1 - b ∧ l.length ≤ 6 ∧ tailP s E g n l = ((g', n', l, v), a, 0) := by
  intro f
  induction f with
  | zero => intro b ps _ h1 h2; omega
  | succ f ih =>
    intro b ps hb hps hf h
    have hS := findL_le s b E 59 hb hE
    unfold parsP at h
    split at h
    · exact absurd (congrArg (fun x : PR => x.2.2) h) (by simp [fail4])
    rename_i h1
    split at h
    · exact absurd (congrArg (fun x : PR => x.2.2) h) (by simp [fail4])
    rename_i h2
    have hok : okX s b (findL s b E 59) = true := by cases hq : okX s b (findL s b E 59) <;> simp_all
    obtain ⟨hg, hlen⟩ := parX_ok hS.1 (by omega) hok
    split at h
    · rename_i h3
      obtain ⟨m, h4, h5, h6, h7, h8⟩ := ih _ _ (by omega) (by rw [List.length_append, List.length_singleton]; omega) (by rw [List.length_append, List.length_singleton]; omega) h
      refine ⟨parX s b (findL s b E 59) :: m, by rw [h4]; simp, ?_, ?_, h7, h8⟩
      · intro c hc
        rcases List.mem_cons.1 hc with rfl | hc
        · exact hg
        · exact h5 c hc
      · rw [List.flatMap_cons, List.length_append, parL_body, List.length_cons, hlen, h6]
        omega
    · rename_i h3
      obtain ⟨rfl, rfl, rfl, _⟩ := tail_ok h
      refine ⟨[parX s b (findL s b E 59)], rfl, ?_, ?_, by rw [List.length_append, List.length_singleton]; omega, h⟩
      · intro c hc
        rw [List.mem_singleton.1 hc]; exact hg
      · rw [List.flatMap_cons, List.flatMap_nil, List.append_nil, parL_body, List.length_cons, hlen]
        omega
theorem more_ok {s g n g' n' v : ByteArray} {E a b : Nat} {l : List Par} {m : Bool} (hE : E ≤ s.size) (hb : m = true → b ≤ E) (h : moreP s E g n [] b m = ((g', n', l, v), a, 0)) :
    g' = g ∧ n' = n ∧ (∀ c ∈ l, goodPar c) ∧ (l.flatMap parL).length = (if m = true then E + 1 - b else 0) ∧ l.length ≤ 6 ∧ v = s.extract (E + 1) s.size ∧ v.size ≤ 2400 ∧ ∀ b ∈ v.data.toList, oddB b.toNat = false := by
  unfold moreP at h
  split at h
  · rename_i hm
    obtain ⟨m2, h1, h2, h3, h4, h5⟩ := pars_ok hE _ _ _ (hb hm) (by simp) (by simp) h
    obtain ⟨e1, e2, _, e4, e5, e6⟩ := tail_ok h5
    rw [List.nil_append] at h1
    subst h1
    exact ⟨e1, e2, h2, by rw [if_pos hm]; exact h3, h4, e4, e5, e6⟩
  · rename_i hm
    obtain ⟨e1, e2, e3, e4, e5, e6⟩ := tail_ok h
    subst e3
    exact ⟨e1, e2, by simp, by rw [if_neg hm]; rfl, by simp, e4, e5, e6⟩
theorem fail4_err {a : Nat} {e : Int} {x : P4} {b : Nat} (h : fail4 a e = (x, b, 0)) : e = 0 := congrArg (fun y : PR => y.2.2) h
theorem chk_mk {g n : ByteArray} {l : List Par} {v : ByteArray} (h1 : g.size = 0 ∨ isName g = true) (h2 : isName n = true) (h3 : l.length ≤ 6) (h4 : ∀ c ∈ l, isPar c = true) (h5 : v.size ≤ 2400) (h6 : ∀ b ∈ v.data.toList, oddB b.toNat = false) : chkP g n l v 0 = 0 := by
  unfold chkP badNames
  have e1 : ((!decide (g.size = 0) && !isName g) || !isName n) = false := by
    rw [h2]
    rcases h1 with h | h
    · rw [decide_eq_true h]; rfl
    · rw [h]; simp
  have e2 : (l.any fun c => !isPar c) = false := by
    rw [List.any_eq_false]; intro c hc; rw [h4 c hc]; simp
  have e3 : (v.data.toList.any fun c => oddB c.toNat) = false := by
    rw [List.any_eq_false]; intro c hc; rw [h6 c hc]; simp
  rw [e1, if_neg (by decide), if_neg (by omega), e2, if_neg (by decide), if_neg (by omega), if_neg (by omega), e3, if_neg (by decide)]
/-- What is read from a line is right, and printed again it has as many bytes. -/
theorem read_ok {s g n v : ByteArray} {l : List Par} {a : Nat} (h : readP s = ((g, n, l, v), a, 0)) : chkP g n l v 0 = 0 ∧ (∀ c ∈ l, c.1.size = 0 → capS c.2 = true) ∧ (lineL g n l v).length = s.size := by
  unfold readP at h
  split at h
  · rename_i hE
    have hE1 := findL_le s 0 s.size 58 (by omega) (by omega)
    have hT := findL_le s 0 (findL s 0 s.size 58) 59 (by omega) (by omega)
    have hDl := findL_le s 0 (findL s 0 (findL s 0 s.size 58) 59) 46 (by omega) (by omega)
    generalize findL s 0 s.size 58 = E at *
    generalize findL s 0 E 59 = T at *
    generalize findL s 0 T 46 = D at *
    have key : ∀ (b : Nat) (G : ByteArray), b ≤ T → (G.size = 0 ∨ isName G = true) → (preL G).length = b → nameP s E T b G = ((g, n, l, v), a, 0) → chkP g n l v 0 = 0 ∧ (∀ c ∈ l, c.1.size = 0 → capS c.2 = true) ∧ (lineL g n l v).length = s.size := by
      intro b G hb hG hGl hn
      unfold nameP at hn
      split at hn
      · exact absurd (fail4_err hn) (by decide)
      rename_i h1
      have hN : isName (upS (s.extract b T)) = true := by cases hq : isName (upS (s.extract b T)) <;> simp_all
      obtain ⟨rfl, rfl, h2, h3, h4, h5, h6, h7⟩ := more_ok (by omega) (fun hm => by have := of_decide_eq_true hm; omega) hn
      refine ⟨chk_mk hG hN h4 (fun c hc => (h2 c hc).1) h6 h7, fun c hc => (h2 c hc).2, ?_⟩
      unfold lineL
      simp only [List.length_append, List.length_singleton, data_len]
      have hz : (upS (s.extract b T)).size = T - b := by rw [upS_size, seg_size s (by omega)]
      have hvz : v.size = s.size - (E + 1) := by rw [h5, seg_size s (by omega)]
      rw [h3, hGl, hz, hvz]
      by_cases hm : T < E
      · rw [if_pos (by simpa using hm)]; omega
      · rw [if_neg (by simpa using hm)]; omega
    split at h
    · rename_i hD
      split at h
      · exact absurd (fail4_err h) (by decide)
      rename_i h1
      have hN : isName (upS (s.extract 0 D)) = true := by cases hq : isName (upS (s.extract 0 D)) <;> simp_all
      have hz : (upS (s.extract 0 D)).size = D := by rw [upS_size, seg_size s (by omega)]; omega
      have hf := fits_le (isName_fits hN)
      refine key _ _ (by omega) (.inr hN) ?_ h
      unfold preL
      rw [if_neg (by omega), List.length_append, data_len, hz]; rfl
    · exact key 0 ⟨#[]⟩ (by omega) (.inl rfl) rfl h
  · exact absurd (fail4_err h) (by decide)
end Go.Proofs.Ytioeobkneikgfaa
