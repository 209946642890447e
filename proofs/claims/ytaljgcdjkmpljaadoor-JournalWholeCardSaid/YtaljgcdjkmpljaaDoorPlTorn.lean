/- PlateTorn, walked. -/
import Derived.Test.YtaljgcdjkmpljaaDoorPl8
import Derived.Deep.QuietTactic
import Derived.IntWalk
namespace Go.Proofs.YtaljgcdjkmpljaaDoor
open Go.RowKit Lift
set_option linter.unusedSimpArgs false
set_option linter.unusedVariables false

theorem pad_get (s : ByteArray) (i : Nat) (h : s.size ≤ 64) (hi : i < 64) : (pad s).getD i 0 = if h : i < s.size then s[i] else 0 := by
  unfold pad
  rw [List.getD_eq_getElem?_getD]
  by_cases h1 : i < s.size
  · rw [List.getElem?_append_left (by simpa using h1), dif_pos h1]
    rw [List.getElem?_eq_getElem (by simpa using h1)]
    rfl
  · rw [List.getElem?_append_right (by simp; omega), dif_neg h1, List.getElem?_replicate]
    split <;> rfl
def nb (s : ByteArray) (i : Nat) : UInt8 := (pad s).getD i 0
/-! ### What the calls compute -/
def tS1 (o : ByteArray) : St := { su := [zer, zer, zer], no := [zer, pad o, zer], lo := [(1, pad o)], fu := -1, off := false }
def tS2 (o : ByteArray) : St := { su := [zer, pad o, zer], no := [zer, pad o, zer], lo := [], fu := -1, off := false }
def tS3 (o s : ByteArray) : St := { su := [zer, pad o, zer], no := [zer, pad s, zer], lo := [(1, pad s)], fu := -1, off := false }
def tX (o s : ByteArray) (k : Int) : List UInt8 := tear (pad o) (pad s) (kOf [k] 0)
theorem t_1 (o : ByteArray) (h : o.size ≤ 64) : putS (St.new 3) 1 o = tS1 o ∧ putE (St.new 3) 1 o = 0 := by
  have h2 : ¬ 64 < o.size := by omega
  have h0 : thereE (St.new 3) 1 = 0 := by decide
  have h3 : burnE (St.new 3) = 0 := by decide
  have h4 : burnS (St.new 3) = St.new 3 := by rfl
  unfold putS putE
  simp only [h0, h2, h3, h4, if_true, if_false]
  exact ⟨rfl, trivial⟩
theorem t_2 (o : ByteArray) : syncS (tS1 o) = tS2 o ∧ syncE (tS1 o) = 0 := ⟨rfl, rfl⟩
theorem t_3 (o s : ByteArray) (h : s.size ≤ 64) : putS (tS2 o) 1 s = tS3 o s ∧ putE (tS2 o) 1 s = 0 := by
  have h2 : ¬ 64 < s.size := by omega
  have h0 : thereE (tS2 o) 1 = 0 := by rfl
  have h3 : burnE (tS2 o) = 0 := by rfl
  have h4 : burnS (tS2 o) = tS2 o := by rfl
  unfold putS putE
  simp only [h0, h2, h3, h4, if_true, if_false]
  exact ⟨rfl, trivial⟩
theorem t_4 (o s : ByteArray) (k : Int) : getV (crashS (tS3 o s) [k]) 1 = .tuple #[.string ⟨(tX o s k).toArray⟩, .int .i64 0] := by rfl

/-- What the law looks at: bytes that are partly of one text, partly of the other. -/
def Parts (x N O : Nat → UInt8) : Prop := (∃ k, k ≤ 64 ∧ (∀ i, i < k → x i = N i) ∧ ∀ i, k ≤ i → i < 64 → x i = O i) ∨ (∃ f, f ≤ 64 ∧ (∀ i, i < f → x i = O i) ∧ ∀ i, f ≤ i → i < 64 → x i = N i)
theorem t_parts (o s : ByteArray) (k : Int) (ho : o.size ≤ 64) (hs : s.size ≤ 64) : (tX o s k).length = 64 ∧ Parts (fun i => (tX o s k).getD i 0) (nb s) (nb o) := by
  have h1 := pad_len ho
  have h2 := pad_len hs
  have hk := kOf_le [k] 0
  unfold tX
  generalize kOf [k] 0 = kk at hk
  refine ⟨tear_len h1 h2, ?_⟩
  unfold tear
  split
  · refine .inl ⟨kk, by omega, fun i hi => ?_, fun i hi hi2 => ?_⟩
    · simp only [nb, List.getD_eq_getElem?_getD]
      rw [List.getElem?_append_left (by simp; omega), List.getElem?_take_of_lt hi]
    · simp only [nb, List.getD_eq_getElem?_getD]
      rw [List.getElem?_append_right (by simp; omega), List.getElem?_drop]
      rw [List.length_take, h2, show kk + (i - min kk 64) = i by omega]
  · refine .inr ⟨128 - kk, by omega, fun i hi => ?_, fun i hi hi2 => ?_⟩
    · simp only [nb, List.getD_eq_getElem?_getD]
      rw [List.getElem?_append_left (by simp; omega), List.getElem?_take_of_lt hi]
    · simp only [nb, List.getD_eq_getElem?_getD]
      rw [List.getElem?_append_right (by simp; omega), List.getElem?_drop]
      rw [List.length_take, h1, show 128 - kk + (i - min (128 - kk) 64) = i by omega]

theorem torn_end {x N O : Nat → UInt8} (h : Parts x N O) {f l : Nat} (hf : f ≤ 64) (hl : l ≤ 64) (h1 : f < 64 → x f ≠ N f) (h2 : l < 64 → x (63 - l) ≠ N (63 - l)) :
    (∀ i, f ≤ i → i < 64 → x i = O i) ∨ ∀ i, i < 64 - l → x i = O i := by
  rcases h with ⟨k, hk, ha, hb⟩ | ⟨k, hk, ha, hb⟩
  · left
    intro i hi hi2
    refine hb i ?_ hi2
    apply Nat.le_of_not_lt
    intro hlt
    exact h1 (by omega) (ha f (by omega))
  · right
    intro i hi
    refine ha i ?_
    apply Nat.lt_of_not_le
    intro hle
    exact h2 (by omega) (hb (63 - l) (by omega) (by omega))
theorem u8_eq {a b : UInt8} : ((a.toNat : Int) == (b.toNat : Int)) = decide (a = b) := by
  rw [Bool.eq_iff_iff]; simp [UInt8.toNat_inj, Int.ofNat_inj]
theorem u8_ne {a b : UInt8} : ((a.toNat : Int) != (b.toNat : Int)) = decide (a ≠ b) := by
  rw [Bool.eq_iff_iff]; simp [UInt8.toNat_inj, Int.ofNat_inj]
theorem get_bytes (d : List UInt8) (i : Nat) (h : i < (⟨d.toArray⟩ : ByteArray).size) : (⟨d.toArray⟩ : ByteArray)[i] = d.getD i 0 := by
  have : i < d.length := h
  simp [List.getD_eq_getElem?_getD, this]
  rfl
theorem torn_put1 {base b : Nat} {w : World} {o : ByteArray} (ho : o.size ≤ 64) (h : Pl base w b (St.new 3)) : Calls Tryd.prog 28 #[.pointer (some ⟨b, 0, none⟩), .int .i64 1, .string o] w (PlV base b (tS1 o) (.int .i64 0) w) := by
  have := pl_put h 1 o (by unfold maxTx; omega) (by decide)
  rwa [(t_1 o ho).1, (t_1 o ho).2] at this
theorem torn_sync {base b : Nat} {w : World} {o : ByteArray} (h : Pl base w b (tS1 o)) : Calls Tryd.prog 38 #[.pointer (some ⟨b, 0, none⟩)] w (PlV base b (tS2 o) (.int .i64 0) w) := by
  have := pl_sync h (by simp [tS1])
  rwa [(t_2 o).1, (t_2 o).2] at this
theorem torn_put2 {base b : Nat} {w : World} {o s : ByteArray} (hs : s.size ≤ 64) (h : Pl base w b (tS2 o)) : Calls Tryd.prog 28 #[.pointer (some ⟨b, 0, none⟩), .int .i64 1, .string s] w (PlV base b (tS3 o s) (.int .i64 0) w) := by
  have := pl_put h 1 s (by unfold maxTx; omega) (by simp [tS2])
  rwa [(t_3 o s hs).1, (t_3 o s hs).2] at this
theorem torn_get {base b : Nat} {w : World} {o s : ByteArray} {k : Int} {v : Value} (hv : getV (crashS (tS3 o s) [k]) 1 = v) (h : Pl base w b (crashS (tS3 o s) [k])) : Calls Tryd.prog 43 #[.pointer (some ⟨b, 0, none⟩), .int .i64 1] w (fun e w' => e = .returned v ∧ w = w') := by
  have := pl_get h 1
  rwa [hv] at this
def Inv3 (d : List UInt8) (o : ByteArray) (f l : Nat) (p q : Bool) : Prop := ((∀ i, f ≤ i → i < 64 → d.getD i 0 = nb o i) → p = true) ∧ ((∀ i, i < l → d.getD i 0 = nb o i) → q = true)
theorem inv3_step {d : List UInt8} {o : ByteArray} {f l i : Nat} {p q : Bool} (h : Inv3 d o f l p q) (hi : i < 64) :
    Inv3 d o f l (if decide (f ≤ i) && decide (d.getD i 0 ≠ nb o i) then false else p) (if decide (i < l) && decide (d.getD i 0 ≠ nb o i) then false else q) := by
  refine ⟨fun hA => ?_, fun hB => ?_⟩
  · rw [if_neg ?_]
    · exact h.1 hA
    · simp only [Bool.and_eq_true, decide_eq_true_eq, not_and]
      intro h1 h2
      exact h2 (hA i h1 hi)
  · rw [if_neg ?_]
    · exact h.2 hB
    · simp only [Bool.and_eq_true, decide_eq_true_eq, not_and]
      intro h1 h2
      exact h2 (hB i h1)
theorem inv3_end {d : List UInt8} {o : ByteArray} {f l : Nat} {p q : Bool} (h : Inv3 d o f l p q) (he : (∀ i, f ≤ i → i < 64 → d.getD i 0 = nb o i) ∨ ∀ i, i < l → d.getD i 0 = nb o i) : (p || q) = true := by
  rcases he with he | he
  · rw [h.1 he]; rfl
  · rw [h.2 he]; simp
end Go.Proofs.YtaljgcdjkmpljaaDoor
