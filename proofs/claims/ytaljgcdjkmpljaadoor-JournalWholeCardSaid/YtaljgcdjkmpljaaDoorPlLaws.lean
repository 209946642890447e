/- The plate's plain laws: what is there is what was sure, with the loose writes put in order. -/
import Derived.Test.YtaljgcdjkmpljaaDoorPlOps
namespace Go.Proofs.YtaljgcdjkmpljaaDoor
open Go.RowKit Lift
set_option linter.unusedSimpArgs false
set_option linter.unusedVariables false

def setAll (lo : List Wr) (su : Secs) : Secs := lo.foldl (fun s x => s.set x.1 x.2) su
theorem setAll_len : ∀ (lo : List Wr) (su : Secs), (setAll lo su).length = su.length
  | [], su => rfl
  | x :: r, su => by unfold setAll; rw [List.foldl_cons]; exact (setAll_len r _).trans (by simp)
theorem setAll_snoc (lo : List Wr) (x : Wr) (su : Secs) : setAll (lo ++ [x]) su = (setAll lo su).set x.1 x.2 := by simp [setAll]
theorem setAll_out : ∀ (lo : List Wr) (su : Secs) (i : Nat), (∀ x ∈ lo, x.1 ≠ i) → (setAll lo su)[i]? = su[i]?
  | [], su, i, _ => rfl
  | x :: r, su, i, h => by
    unfold setAll
    rw [List.foldl_cons]
    refine (setAll_out r _ i (fun y hy => h y (List.mem_cons_of_mem _ hy))).trans ?_
    rw [List.getElem?_set_ne (h x (by simp))]
theorem settL_out (a : Secs) : ∀ (lo : List Wr) (b : Secs) (i : Nat), (∀ x ∈ lo, x.1 ≠ i) → (settL a lo b)[i]? = b[i]?
  | [], b, i, _ => rfl
  | x :: r, b, i, h => by
    unfold settL
    rw [List.foldl_cons]
    refine (settL_out a r _ i (fun y hy => h y (List.mem_cons_of_mem _ hy))).trans ?_
    rw [List.getElem?_set_ne (h x (by simp))]
theorem settL_in (a : Secs) : ∀ (lo : List Wr) (b : Secs) (i : Nat), i < b.length → ((∃ x ∈ lo, x.1 = i) ∨ b[i]? = some (a.getD i [])) → (settL a lo b)[i]? = some (a.getD i [])
  | [], b, i, hi, h => by
    rcases h with ⟨x, hx, _⟩ | h
    · cases hx
    · exact h
  | x :: r, b, i, hi, h => by
    unfold settL
    rw [List.foldl_cons]
    refine settL_in a r _ i (by simpa using hi) ?_
    by_cases e : x.1 = i
    · right; rw [← e, List.getElem?_set_self (by omega)]
    · rcases h with ⟨y, hy, e2⟩ | h
      · rcases List.mem_cons.1 hy with rfl | hy
        · exact absurd e2 e
        · exact .inl ⟨y, hy, e2⟩
      · right; rw [List.getElem?_set_ne e]; exact h
/-- Two that agree wherever nothing is loose. -/
theorem settL_same {a b : Secs} {lo : List Wr} (hl : a.length = b.length) (h : ∀ i, (∀ x ∈ lo, x.1 ≠ i) → a[i]? = b[i]?) : settL a lo b = a := by
  apply List.ext_getElem?
  intro i
  by_cases hi : ∃ x ∈ lo, x.1 = i
  · by_cases hb : i < b.length
    · rw [settL_in a lo b i hb (.inl hi), List.getElem?_eq_getElem (by omega)]
      simp [List.getD_eq_getElem?_getD, hl, hb]
    · rw [List.getElem?_eq_none (by rw [settL_len]; omega), List.getElem?_eq_none (by omega)]
  · have hi2 : ∀ x ∈ lo, x.1 ≠ i := fun x hx e => hi ⟨x, hx, e⟩
    rw [settL_out a lo b i hi2, h i hi2]
theorem tearL_out (keep : List Int) : ∀ (lo : List Wr) (j : Nat) (b : Secs) (i : Nat), (∀ x ∈ lo, x.1 ≠ i) → (tearL keep j lo b)[i]? = b[i]?
  | [], j, b, i, _ => rfl
  | x :: r, j, b, i, h => by
    unfold tearL
    refine (tearL_out keep r _ _ i (fun y hy => h y (List.mem_cons_of_mem _ hy))).trans ?_
    rw [List.getElem?_set_ne (h x (by simp))]
theorem tearL_all {keep : List Int} : ∀ (lo : List Wr) (j : Nat) (b : Secs), (∀ i, j ≤ i → i < j + lo.length → kOf keep i = 64) → (∀ d ∈ b, d.length = 64) → (∀ x ∈ lo, x.2.length = 64) → tearL keep j lo b = setAll lo b
  | [], j, b, _, _, _ => rfl
  | x :: r, j, b, hk, hb, hx => by
    unfold tearL setAll
    rw [List.foldl_cons]
    have h64 := hx x (by simp)
    have hold : (b.getD x.1 []).length ≤ 64 := by
      rw [List.getD_eq_getElem?_getD]
      cases h : b[x.1]? with
      | none => simp
      | some d => simpa using Nat.le_of_eq (hb d (List.mem_of_getElem? h))
    have ht : tear (b.getD x.1 []) x.2 (kOf keep j) = x.2 := by
      rw [hk j (Nat.le_refl _) (by simp)]
      unfold tear
      rw [if_pos (Nat.le_refl _), List.take_of_length_le (Nat.le_of_eq h64), List.drop_of_length_le hold, List.append_nil]
    rw [ht]
    refine tearL_all r (j + 1) _ (fun i h1 h2 => hk i (by omega) (by simp only [List.length_cons]; omega)) (fun d hd => ?_) (fun y hy => hx y (List.mem_cons_of_mem _ hy))
    rcases List.mem_or_eq_of_mem_set hd with hd | rfl
    · exact hb d hd
    · exact h64
structure Good (st : St) : Prop where
  su64 : ∀ d ∈ st.su, d.length = 64
  lo64 : ∀ x ∈ st.lo, x.2.length = 64
  eq : st.no = setAll st.lo st.su
theorem Good.len {st : St} (h : Good st) : st.su.length = st.no.length := by rw [h.eq, setAll_len]
theorem Good.new (n : Nat) : Good (St.new n) := ⟨by intro d hd; rw [List.eq_of_mem_replicate hd]; exact zer_len, by simp [St.new], rfl⟩
theorem Good.burn {st : St} (h : Good st) : Good (burnS st) := by
  refine ⟨?_, ?_, ?_⟩
  · rw [burnS_same.1]; exact h.su64
  · rw [burnS_same.2.2]; exact h.lo64
  · rw [burnS_same.1, burnS_same.2.1, burnS_same.2.2]; exact h.eq
theorem Good.put {st : St} (h : Good st) (x : Int) (s : ByteArray) : Good (putS st x s) := by
  unfold putS
  split
  · split
    · exact h
    · rename_i hs
      split
      · have hb := h.burn
        refine ⟨hb.su64, fun y hy => ?_, ?_⟩
        · rcases List.mem_append.1 hy with hy | hy
          · exact hb.lo64 y hy
          · simp at hy; subst hy; exact pad_len (by omega)
        · show (burnS st).no.set x.toNat (pad s) = setAll ((burnS st).lo ++ [(x.toNat, pad s)]) (burnS st).su
          rw [setAll_snoc, ← hb.eq]
      · exact h.burn
  · exact h
theorem Good.settle {st : St} (h : Good st) : settL st.no st.lo st.su = st.no :=
  settL_same h.len.symm (fun i hi => by rw [h.eq, setAll_out _ _ _ hi])
theorem Good.back {st : St} (h : Good st) : settL st.su st.lo st.no = st.su :=
  settL_same h.len (fun i hi => by rw [h.eq, setAll_out _ _ _ hi])
theorem Good.crash {st : St} (h : Good st) (keep : List Int) : crashS st keep = { su := tearL keep 0 st.lo st.su, no := tearL keep 0 st.lo st.su, lo := [], fu := -1, off := false } := by
  have e : settL (tearL keep 0 st.lo st.su) st.lo st.su = tearL keep 0 st.lo st.su := settL_same (tearL_len _ _ _ _) (fun i hi => tearL_out keep _ _ _ _ hi)
  unfold crashS
  simp only [h.back, e]
theorem no64 {lo : List Wr} : ∀ {su : Secs}, (∀ d ∈ su, d.length = 64) → (∀ x ∈ lo, x.2.length = 64) → ∀ d ∈ setAll lo su, d.length = 64 := by
  induction lo with
  | nil => exact fun h _ => h
  | cons x r ih =>
    intro su h hx
    unfold setAll
    rw [List.foldl_cons]
    refine ih (fun d hd => ?_) (fun y hy => hx y (List.mem_cons_of_mem _ hy))
    rcases List.mem_or_eq_of_mem_set hd with hd | rfl
    · exact h d hd
    · exact hx x (by simp)
theorem Good.n64 {st : St} (h : Good st) : ∀ d ∈ st.no, d.length = 64 := by rw [h.eq]; exact no64 h.su64 h.lo64
/-- Where a sector lies in the image. -/
theorem flat_at : ∀ {l : Secs} {n : Nat} {d : List UInt8}, (∀ d ∈ l, d.length = 64) → l[n]? = some d → (l.flatten.drop (64 * n)).take 64 = d
  | x :: r, 0, d, h, hn => by
    simp at hn; subst hn
    have := h x (by simp)
    simp [this]

  | x :: r, n + 1, d, h, hn => by
    have hx := h x (by simp)
    rw [List.flatten_cons, show 64 * (n + 1) = x.length + 64 * n by omega, List.drop_append, Nat.add_sub_cancel_left, List.drop_of_length_le (by omega), List.nil_append]
    exact flat_at (fun d hd => h d (List.mem_cons_of_mem _ hd)) (by simpa using hn)
theorem flat_len : ∀ {l : Secs}, (∀ d ∈ l, d.length = 64) → l.flatten.length = 64 * l.length
  | [], _ => rfl
  | x :: r, h => by
    rw [List.flatten_cons, List.length_append, h x (by simp), flat_len (fun d hd => h d (List.mem_cons_of_mem _ hd)), List.length_cons]; omega
end Go.Proofs.YtaljgcdjkmpljaaDoor
