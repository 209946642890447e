/- Both plates side by side: what they have in common, step by step. -/
import Derived.Test.YtaljgcdjkmpljaaDoorPlRef5
namespace Go.Proofs.YtaljgcdjkmpljaaDoor
open Go.RowKit Lift
set_option linter.unusedSimpArgs false
set_option linter.unusedVariables false

structure Rel (st : St) (rs : RSt) : Prop where
  good : Good st
  su : rs.su = st.su
  lo : st.lo = rs.L.map toWr
  fz : rs.fz = decide (0 ≤ st.fu)
  n : 0 ≤ st.fu → rs.n = st.fu
  off : rs.off = st.off
  f1 : -1 ≤ st.fu
  at' : ∀ x ∈ st.lo, x.1 < st.su.length
theorem Rel.no {st : St} {rs : RSt} (h : Rel st rs) : rno rs = st.no := by
  unfold rno; rw [← h.lo, h.su, ← h.good.eq]
theorem Rel.len {st : St} {rs : RSt} (h : Rel st rs) : rs.su.length = st.no.length := by rw [h.su, h.good.len]
theorem Rel.pos {st : St} {rs : RSt} (h : Rel st rs) : rs.fz = true → 0 ≤ rs.n := by
  intro hf
  rw [h.fz] at hf
  have h0 : 0 ≤ st.fu := by simpa using hf
  rw [h.n h0]; exact h0
theorem Rel.new (n : Nat) : Rel (St.new n) (RSt.new n) := ⟨Good.new n, rfl, rfl, rfl, fun h => by simp [St.new] at h, rfl, by simp [St.new], by simp [St.new]⟩
theorem Rel.there {st : St} {rs : RSt} (h : Rel st rs) (x : Int) : rthereE rs x = thereE st x := by
  unfold rthereE thereE; rw [h.off, h.len]
theorem Rel.get {st : St} {rs : RSt} (h : Rel st rs) (x : Int) : rgetV rs x = getV st x := by
  unfold rgetV getV; rw [h.there, h.no]
theorem Rel.burn {st : St} {rs : RSt} (h : Rel st rs) : stepE rs = burnE st ∧ Rel (burnS st) (stepS rs) := by
  unfold stepE stepS burnE
  have hg := h.good.burn
  by_cases h0 : st.fu = 0
  · have hf : rs.fz = true := by rw [h.fz]; simp [h0]
    have hn : rs.n = 0 := by rw [h.n (by omega), h0]
    simp only [hf, hn, h0, ↓reduceIte]
    refine ⟨trivial, ?_⟩
    unfold burnS at hg ⊢
    simp only [h0, ↓reduceIte] at hg ⊢
    exact ⟨hg, h.su, h.lo, by simp, by simp [h0], rfl, by simp, h.at'⟩
  · by_cases h1 : 0 < st.fu
    · have hf : rs.fz = true := by rw [h.fz]; simp; omega
      have hn : rs.n = st.fu := h.n (by omega)
      have hn0 : ¬ rs.n = 0 := by omega
      simp only [hf, hn0, h0, ↓reduceIte]
      refine ⟨trivial, ?_⟩
      unfold burnS at hg ⊢
      simp only [h0, h1, ↓reduceIte] at hg ⊢
      exact ⟨hg, h.su, h.lo, by simp; omega, fun _ => by show rs.n - 1 = st.fu - 1; omega, h.off, by show -1 ≤ st.fu - 1; omega, h.at'⟩
    · have hf : rs.fz = false := by rw [h.fz]; simp; omega
      simp only [hf, h0, Bool.false_eq_true, ↓reduceIte]
      refine ⟨trivial, ?_⟩
      unfold burnS
      simp only [h0, h1, ↓reduceIte]
      exact h
theorem Rel.put {st : St} {rs : RSt} (h : Rel st rs) (x : Int) (s : ByteArray) : errP rs x s = putE st x s ∧ Rel (putS st x s) (rputS rs x s) := by
  have hb := h.burn
  have hg := h.good.put x s
  unfold errP rputS putE putS thereE
  unfold putS thereE at hg
  rw [h.off, h.len]
  by_cases h1 : st.off = true
  · simp only [h1, ↓reduceIte] at hg ⊢
    exact ⟨by simp, by simpa using h⟩
  · simp only [h1, ↓reduceIte, Bool.false_eq_true] at hg ⊢
    by_cases h2 : x < 0 ∨ (st.no.length : Int) ≤ x
    · simp only [h2, ↓reduceIte] at hg ⊢
      exact ⟨by simp, by simpa using h⟩
    · simp only [h2, ↓reduceIte] at hg ⊢
      by_cases h3 : 64 < s.size
      · simp only [h3, ↓reduceIte]
        exact ⟨trivial, h⟩
      · simp only [h3, ↓reduceIte] at hg ⊢
        rw [hb.1]
        refine ⟨rfl, ?_⟩
        by_cases h4 : burnE st = 0
        · simp only [h4, ↓reduceIte] at hg ⊢
          have hR := hb.2
          refine ⟨hg, hR.su, ?_, hR.fz, hR.n, hR.off, hR.f1, ?_⟩
          · show (burnS st).lo ++ [(x.toNat, pad s)] = ((stepS rs).L ++ [(x, s)]).map toWr
            rw [List.map_append, ← hR.lo]; rfl
          · intro y hy
            rcases List.mem_append.1 hy with hy | hy
            · exact hR.at' y hy
            · simp only [List.mem_singleton] at hy
              rw [hy]
              show x.toNat < (burnS st).su.length
              rw [burnS_same.1, h.good.len]; omega
        · simp only [h4, ↓reduceIte]
          exact hb.2
theorem Rel.sync {st : St} {rs : RSt} (h : Rel st rs) : rsyncE rs = syncE st ∧ Rel (syncS st) (rsyncS rs) := by
  have hb := h.burn
  unfold rsyncE syncE rsyncS syncS
  rw [h.off]
  by_cases h1 : st.off = true
  · simp only [h1, ↓reduceIte]
    exact ⟨trivial, h⟩
  · simp only [h1, ↓reduceIte, Bool.false_eq_true]
    rw [hb.1]
    refine ⟨rfl, ?_⟩
    by_cases h4 : burnE st = 0
    · simp only [h4, ↓reduceIte]
      have hR := hb.2
      rw [h.good.settle, h.no]
      refine ⟨⟨h.good.n64, by simp, ?_⟩, rfl, rfl, hR.fz, hR.n, hR.off, hR.f1, by simp⟩
      show (burnS st).no = setAll [] st.no
      rw [burnS_same.2.1]; rfl
    · simp only [h4, ↓reduceIte]
      exact hb.2
theorem Rel.fuse {st : St} {rs : RSt} (h : Rel st rs) (n : Int) : Rel { st with fu := max n (-1) } { rs with fz := decide (0 ≤ n), n := n } :=
  ⟨⟨h.good.su64, h.good.lo64, h.good.eq⟩, h.su, h.lo, by
    show decide (0 ≤ n) = decide (0 ≤ max n (-1))
    rw [Bool.eq_iff_iff]; simp; omega, fun h0 => by
    have h0' : 0 ≤ max n (-1) := h0
    show n = max n (-1); omega, h.off, by show -1 ≤ max n (-1); omega, h.at'⟩
theorem Rel.crash {st : St} {rs : RSt} (h : Rel st rs) (keep : List Int) : Rel (crashS st keep) (rcrashS rs keep) := by
  rw [h.good.crash]
  unfold rcrashS
  rw [h.su, ← h.lo]
  refine ⟨⟨tearL64 h.good.su64 (fun x hx => ⟨h.good.lo64 x hx, h.at' x hx⟩), by simp, rfl⟩, rfl, rfl, rfl, fun h0 => by simp at h0, rfl, by simp, by simp⟩

/-! ### The memory of both, and what is to be left alone -/
def Mem (base : Nat) (w : World) (O : Nat → Prop) (ab : Nat) (st : St) (rb : Nat) (rs : RSt) : Prop :=
  ∃ (F : Fp) (R : RF), F.b = ab ∧ R.b = rb ∧ Raw base w F st ∧ RRaw base w R rs ∧ (∀ k, foot F k → ¬ rfoot R k) ∧ ∀ k, O k → ¬ foot F k ∧ ¬ rfoot R k ∧ k < w.heap.size
/-- From base on, what is to be left alone aside. -/
def Free (base : Nat) (O : Nat → Prop) (k : Nat) : Prop := base ≤ k ∧ ¬ O k
def MemV (base : Nat) (O : Nat → Prop) (ab : Nat) (st : St) (rb : Nat) (rs : RSt) (v : Value) (w : World) (e : Ending) (w' : World) : Prop :=
  e = .returned v ∧ Mem base w' O ab st rb rs ∧ Kept (Free base O) w w'
theorem Mem.below {base : Nat} {w w' : World} {O : Nat → Prop} {ab rb : Nat} {st : St} {rs : RSt} (h : Mem base w O ab st rb rs) (hb : Below w.heap.size w w') : Mem base w' O ab st rb rs := by
  obtain ⟨F, R, e1, e2, h1, h2, h3, h4⟩ := h
  exact ⟨F, R, e1, e2, h1.below hb, h2.below hb, h3, fun k hk => ⟨(h4 k hk).1, (h4 k hk).2.1, Nat.lt_of_lt_of_le (h4 k hk).2.2 hb.size⟩⟩
theorem Mem.more {base : Nat} {w w' : World} {O O' : Nat → Prop} {ab rb : Nat} {st : St} {rs : RSt} (h : Mem base w O ab st rb rs) (hb : Below w.heap.size w w') (hO : ∀ k, O' k → O k ∨ (w.heap.size ≤ k ∧ k < w'.heap.size)) : Mem base w' O' ab st rb rs := by
  obtain ⟨F, R, e1, e2, h1, h2, h3, h4⟩ := h
  refine ⟨F, R, e1, e2, h1.below hb, h2.below hb, h3, fun k hk => ?_⟩
  rcases hO k hk with h | ⟨hge, hlt⟩
  · exact ⟨(h4 k h).1, (h4 k h).2.1, Nat.lt_of_lt_of_le (h4 k h).2.2 hb.size⟩
  · exact ⟨fun hf => by have := h1.inb k hf; omega, fun hf => by have := h2.inb k hf; omega, hlt⟩
theorem Mem.less {base : Nat} {w : World} {O O' : Nat → Prop} {ab rb : Nat} {st : St} {rs : RSt} (h : Mem base w O ab st rb rs) (hO : ∀ k, O' k → O k) : Mem base w O' ab st rb rs := by
  obtain ⟨F, R, e1, e2, h1, h2, h3, h4⟩ := h
  exact ⟨F, R, e1, e2, h1, h2, h3, fun k hk => h4 k (hO k hk)⟩
theorem Mem.stepA {base : Nat} {w : World} {O : Nat → Prop} {ab rb : Nat} {st st' : St} {rs : RSt} {f : FuncId} {args : Array Value} {v : Value} (h : Mem base w O ab st rb rs) (hc : ∀ F, Raw base w F st → F.b = ab → (∀ k, foot F k → k < w.heap.size) → Calls Tryd.prog f args w (PlPost base F st' v w)) :
    Calls Tryd.prog f args w (MemV base O ab st' rb rs v w) := by
  obtain ⟨F, R, e1, e2, h1, h2, h3, h4⟩ := h
  refine (hc F h1 e1 h1.inb).mono ?_
  rintro e w' ⟨F', he, hR, hb, hf, hk⟩
  refine ⟨he, ⟨F', R, hb.trans e1, e2, hR, h2.kept hk (fun k a b => h3 k b a), fun k a b => ?_, fun k hO => ⟨fun a => ?_, (h4 k hO).2.1, Nat.lt_of_lt_of_le (h4 k hO).2.2 hk.size⟩⟩, hk.wide (fun k _ hfk => ⟨h1.ge k hfk, fun hO => (h4 k hO).1 hfk⟩)⟩
  · rcases hf k a with h | h
    · exact h3 k h b
    · have := h2.inb k b; omega
  · rcases hf k a with h | h
    · exact (h4 k hO).1 h
    · have := (h4 k hO).2.2; omega
theorem Mem.stepR {base : Nat} {w : World} {O : Nat → Prop} {ab rb : Nat} {st : St} {rs rs' : RSt} {f : FuncId} {args : Array Value} {v : Value} (h : Mem base w O ab st rb rs) (hc : ∀ R, RRaw base w R rs → R.b = rb → Calls Tryd.prog f args w (RfPost base R rs' v w)) :
    Calls Tryd.prog f args w (MemV base O ab st rb rs' v w) := by
  obtain ⟨F, R, e1, e2, h1, h2, h3, h4⟩ := h
  refine (hc R h2 e2).mono ?_
  rintro e w' ⟨R', he, hR, hb, hf, hk⟩
  refine ⟨he, ⟨F, R', e1, hb.trans e2, h1.kept hk (fun k a b => h3 k a b), hR, fun k a b => ?_, fun k hO => ⟨(h4 k hO).1, fun a => ?_, Nat.lt_of_lt_of_le (h4 k hO).2.2 hk.size⟩⟩, hk.wide (fun k _ hfk => ⟨h2.ge k hfk, fun hO => (h4 k hO).2.1 hfk⟩)⟩
  · rcases hf k b with h | h
    · exact h3 k a h
    · have := h1.inb k a; omega
  · rcases hf k a with h | h
    · exact (h4 k hO).2.1 h
    · have := (h4 k hO).2.2; omega
theorem Mem.pl {base : Nat} {w : World} {O : Nat → Prop} {ab rb : Nat} {st : St} {rs : RSt} (h : Mem base w O ab st rb rs) : Pl base w ab st := by
  obtain ⟨F, R, e1, e2, h1, _⟩ := h; exact ⟨F, e1, h1⟩
theorem Mem.rf {base : Nat} {w : World} {O : Nat → Prop} {ab rb : Nat} {st : St} {rs : RSt} (h : Mem base w O ab st rb rs) : ∃ R, R.b = rb ∧ RRaw base w R rs := by
  obtain ⟨F, R, e1, e2, _, h2, _⟩ := h; exact ⟨R, e2, h2⟩
end Go.Proofs.YtaljgcdjkmpljaaDoor
