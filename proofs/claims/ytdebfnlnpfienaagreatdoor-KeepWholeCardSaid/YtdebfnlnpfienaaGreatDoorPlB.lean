/- The reference's plate: how it lies in memory; its put. -/
import Derived.Test.YtdebfnlnpfienaaGreatDoorPlA
import Derived.Deep.RegionHeld3
namespace Go.Proofs.YtdebfnlnpfienaaGreatDoor
open Go.RowKit Lift
set_option linter.unusedSimpArgs false
set_option linter.unusedVariables false

/-- So many bytes from a place on are a text's, and zeros behind it. -/
def putB (B : List UInt8) (o : Nat) (s : ByteArray) (f : Nat) : Nat → List UInt8
  | 0 => B
  | k + 1 => (putB B o s f k).set (o + (f + k)) (nb s (f + k))
theorem putB_len (B : List UInt8) (o : Nat) (s : ByteArray) (f : Nat) : ∀ k, (putB B o s f k).length = B.length
  | 0 => rfl
  | k + 1 => by unfold putB; rw [List.length_set, putB_len B o s f k]
theorem putB_get (B : List UInt8) (o : Nat) (s : ByteArray) (f : Nat) : ∀ k i, (putB B o s f k)[i]? = if o + f ≤ i ∧ i < o + f + k ∧ i < B.length then some (nb s (i - o)) else B[i]?
  | 0, i => by rw [if_neg (by omega)]; rfl
  | k + 1, i => by
    unfold putB
    rw [List.getElem?_set, putB_get B o s f k i, putB_len]
    by_cases h1 : o + (f + k) = i
    · subst h1
      rw [if_pos rfl]
      by_cases h2 : o + (f + k) < B.length
      · rw [if_pos h2, if_pos ⟨by omega, by omega, h2⟩, show o + (f + k) - o = f + k by omega]
      · rw [if_neg h2, if_neg (fun h => h2 h.2.2), List.getElem?_eq_none (by omega)]
    · rw [if_neg h1]
      by_cases h2 : o + f ≤ i ∧ i < o + f + k ∧ i < B.length
      · rw [if_pos h2, if_pos ⟨h2.1, by omega, h2.2.2⟩]
      · rw [if_neg h2, if_neg (fun h => h2 ⟨h.1, by omega, h.2.2⟩)]
theorem set_cs (l : List UInt8) (i : Nat) (c : UInt8) : (Cs l).set i (.int .u8 (c.toNat : Int)) = Cs (l.set i c) := by
  simp [Lib.byteCells, List.map_set]
def PutPost (g : Nat) (B : List UInt8) (w : World) (e : Ending) (w' : World) : Prop :=
  e = .returned (.tuple #[]) ∧ Bytes w' g B ∧ Kept (fun k => k = g) w w'
end Go.Proofs.YtdebfnlnpfienaaGreatDoor

/- The reference's plate: its state, Size, step, Fuse, Put. -/
namespace Go.Proofs.YtdebfnlnpfienaaGreatDoor
open Go.RowKit Lift
set_option linter.unusedSimpArgs false
set_option linter.unusedVariables false

theorem flat_get : ∀ {l : Secs} (q r : Nat), (∀ d ∈ l, d.length = 64) → r < 64 → l.flatten[64 * q + r]? = (l[q]?).bind (fun d => d[r]?)
  | [], q, r, _, _ => by simp
  | x :: t, 0, r, h, hr => by
    have hx := h x (by simp)
    rw [List.flatten_cons, List.getElem?_append_left (by omega)]
    simp
  | x :: t, q + 1, r, h, hr => by
    have hx := h x (by simp)
    rw [List.flatten_cons, List.getElem?_append_right (by omega), show 64 * (q + 1) + r - x.length = 64 * q + r by omega, flat_get q r (fun d hd => h d (List.mem_cons_of_mem _ hd)) hr]
    simp
def spl (y : List UInt8) (s : ByteArray) (f k : Nat) : List UInt8 := y.take f ++ ((pad s).drop f).take k ++ y.drop (f + k)
theorem spl_len {y : List UInt8} {s : ByteArray} {f k : Nat} (hy : y.length = 64) (hs : s.size ≤ 64) (hk : f + k ≤ 64) : (spl y s f k).length = 64 := by
  have := pad_len hs
  simp [spl]; omega
theorem spl_get {y : List UInt8} {s : ByteArray} {f k : Nat} (hy : y.length = 64) (hs : s.size ≤ 64) (hk : f + k ≤ 64) (r : Nat) (hr : r < 64) : (spl y s f k)[r]? = if f ≤ r ∧ r < f + k then some (nb s r) else y[r]? := by
  have hp := pad_len hs
  unfold spl
  by_cases h1 : r < f
  · rw [if_neg (by omega), List.append_assoc, List.getElem?_append_left (by simp; omega), List.getElem?_take_of_lt h1]
  · by_cases h2 : r < f + k
    · rw [if_pos ⟨by omega, h2⟩, List.append_assoc, List.getElem?_append_right (by simp; omega), List.getElem?_append_left (by simp; omega)]
      rw [List.getElem?_take_of_lt (by simp; omega), List.getElem?_drop]
      rw [show f + (r - (List.take f y).length) = r by simp; omega]
      unfold nb
      rw [List.getD_eq_getElem?_getD, List.getElem?_eq_getElem (by omega)]
      rfl
    · rw [if_neg (by omega), List.getElem?_append_right (by simp; omega), List.getElem?_drop]
      congr 1
      simp; omega
theorem putB_flat {l : Secs} {a f k : Nat} {s : ByteArray} {y : List UInt8} (h64 : ∀ d ∈ l, d.length = 64) (hy : l[a]? = some y) (hk : f + k ≤ 64) (hs : s.size ≤ 64) :
    putB l.flatten (64 * a) s f k = (l.set a (spl y s f k)).flatten := by
  have hal := (List.getElem?_eq_some_iff.1 hy).1
  have hyl := h64 y (List.mem_of_getElem? hy)
  have h64b : ∀ d ∈ l.set a (spl y s f k), d.length = 64 := fun d hd => by
    rcases List.mem_or_eq_of_mem_set hd with hd | rfl
    · exact h64 d hd
    · exact spl_len hyl hs hk
  apply List.ext_getElem?
  intro i
  obtain ⟨q, r, hr, rfl⟩ : ∃ q r, r < 64 ∧ i = 64 * q + r := ⟨i / 64, i % 64, Nat.mod_lt _ (by omega), by omega⟩
  rw [putB_get, flat_get q r h64b hr, flat_get q r h64 hr, flat_len h64]
  by_cases hq : a = q
  · subst hq
    rw [List.getElem?_set_self hal, hy]
    simp only [Option.bind_some]
    rw [spl_get hyl hs hk r hr]
    by_cases h1 : f ≤ r ∧ r < f + k
    · rw [if_pos ⟨by omega, by omega, by omega⟩, if_pos h1, show 64 * a + r - 64 * a = r by omega]
    · rw [if_neg (by omega), if_neg h1]
  · rw [List.getElem?_set_ne hq, if_neg (by omega)]

abbrev RLo := Int × ByteArray
def rRLo : Rd RLo := (Rd.int .i64).pair Rd.str
theorem rlo_flat : Flat rRLo := by
  rintro S S' w w' cs c ⟨c1, c2, rfl, h1, h2⟩
  exact ⟨c1, c2, rfl, h1, h2⟩
theorem rlo_rel (S : Nat → Prop) (w : World) (c : RLo) (h1 : Wf c.1) (h2 : c.2.size ≤ maxTx) : rRLo.rel S w [.int .i64 c.1, .string c.2] c := ⟨[_], [_], rfl, ⟨rfl, h1⟩, ⟨rfl, h2⟩⟩
/-- Where it lies. -/
structure RF where
  b : Nat
  g : Nat
  cap : Nat
  lv : Value
structure RSt where
  su : Secs
  L : List RLo
  fz : Bool
  n : Int
  off : Bool
def rfCells (R : RF) (rs : RSt) : Array Value := #[.slice (some ⟨R.g, 0, none⟩) (64 * rs.su.length) R.cap, R.lv, .bool rs.fz, .int .i64 rs.n, .bool rs.off]
def rfoot (R : RF) (k : Nat) : Prop := k = R.b ∨ k = R.g ∨ some k = R.lv.ownBlock
def stepS (rs : RSt) : RSt := if rs.fz then (if rs.n = 0 then { rs with off := true } else { rs with n := rs.n - 1 }) else rs
def stepE (rs : RSt) : Int := if rs.fz then (if rs.n = 0 then 12 else 0) else 0
def errP (rs : RSt) (x : Int) (s : ByteArray) : Int := if rs.off then 12 else if x < 0 ∨ (rs.su.length : Int) ≤ x then 2 else if 64 < s.size then 8 else stepE rs
def rputS (rs : RSt) (x : Int) (s : ByteArray) : RSt := if rs.off then rs else if x < 0 ∨ (rs.su.length : Int) ≤ x then rs else if 64 < s.size then rs else if stepE rs = 0 then { stepS rs with L := (stepS rs).L ++ [(x, s)] } else stepS rs
theorem stepS_same {rs : RSt} : (stepS rs).su = rs.su ∧ (stepS rs).L = rs.L := by
  unfold stepS; split
  · split <;> exact ⟨rfl, rfl⟩
  · exact ⟨rfl, rfl⟩
end Go.Proofs.YtdebfnlnpfienaaGreatDoor

/- The reference's plate: New, Image, Get. -/
namespace Go.Proofs.YtdebfnlnpfienaaGreatDoor
open Go.RowKit Lift
set_option linter.unusedSimpArgs false
set_option linter.unusedVariables false

def toWr (x : RLo) : Wr := (x.1.toNat, pad x.2)
def rno (rs : RSt) : Secs := setAll (rs.L.map toWr) rs.su
theorem spl_full {y : List UInt8} {s : ByteArray} (hy : y.length = 64) (hs : s.size ≤ 64) : spl y s 0 64 = pad s := by
  have := pad_len hs
  unfold spl
  rw [List.take_zero, List.drop_zero, List.nil_append, List.take_of_length_le (by omega), List.drop_of_length_le (by omega), List.append_nil]
theorem bytes_cell {w : World} {g : Nat} {l : List UInt8} (h : Bytes w g l) {j : Nat} {u : Value} (hu : (Cs l)[j]? = some u) : w.cell? ⟨g, 0 + j, none⟩ = some u := by
  have hj : j < l.length := by have := (List.getElem?_eq_some_iff.1 hu).1; rwa [cs_len] at this
  rw [Nat.zero_add, h.cell j hj]
  simpa [Lib.byteCells, hj, List.getD_eq_getElem?_getD] using hu
theorem own_bytes {w : World} {base g n cap : Nat} {e : TypeId} {l : List UInt8} (h : w.ownsRow base e 1 (.slice (some ⟨g, 0, none⟩) n cap) n (Cs l)) : Bytes w g l := by
  intro j hj
  refine ⟨?_, h.frozenAt j⟩
  have := h.cells (g := g) rfl j (.int .u8 ((l.getD j 0).toNat : Int)) (by simp [Lib.byteCells, hj, List.getD_eq_getElem?_getD])
  rw [Addr.add_mid, Nat.zero_add] at this
  exact this
theorem made_row (w : World) (base : Nat) (hb : base ≤ w.heap.size) : (w.alloc (.cells #[] 5)).ownsRow base 5 1 (.slice (some ⟨w.heap.size, 0, none⟩) 0 0) 0 [] :=
  World.ownsRow_made w #[] 0 hb (by simp [maxLen]) (by simp)
end Go.Proofs.YtdebfnlnpfienaaGreatDoor

/- The reference's plate: Get, New. -/
namespace Go.Proofs.YtdebfnlnpfienaaGreatDoor
open Go.RowKit Lift
set_option linter.unusedSimpArgs false
set_option linter.unusedVariables false

def rthereE (rs : RSt) (x : Int) : Int := if rs.off then 12 else if x < 0 ∨ (rs.su.length : Int) ≤ x then 2 else 0
def rgetV (rs : RSt) (x : Int) : Value := if rthereE rs x = 0 then .tuple #[.string ⟨((rno rs).getD x.toNat []).toArray⟩, .int .i64 0] else .tuple #[.string ⟨#[]⟩, .int .i64 (rthereE rs x)]
theorem put_one {y : List UInt8} {s : ByteArray} (hy : y.length = 64) (hs : s.size ≤ 64) : putB y (64 * 0) s 0 64 = pad s := by
  have := putB_flat (l := [y]) (a := 0) (f := 0) (k := 64) (y := y) (s := s) (by simp [hy]) rfl (by omega) hs
  rw [spl_full hy hs] at this
  simpa using this
end Go.Proofs.YtdebfnlnpfienaaGreatDoor

/- The reference's plate: New, Sync, Crash. -/
namespace Go.Proofs.YtdebfnlnpfienaaGreatDoor
open Go.RowKit Lift
set_option linter.unusedSimpArgs false
set_option linter.unusedVariables false

def RSt.new (n : Nat) : RSt := { su := List.replicate n zer, L := [], fz := false, n := 0, off := false }
theorem zer_flat (n : Nat) : (List.replicate n zer).flatten = List.replicate (n * 64) 0 := by
  unfold zer; rw [List.flatten_replicate_replicate]
def rsyncE (rs : RSt) : Int := if rs.off then 12 else stepE rs
def rsyncS (rs : RSt) : RSt := if rs.off then rs else if stepE rs = 0 then { stepS rs with su := rno rs, L := [] } else stepS rs
theorem imageB_size {no : Secs} (h : ∀ d ∈ no, d.length = 64) : (imageB no).size = 64 * no.length := by
  show no.flatten.length = _; exact flat_len h
theorem rno_len (rs : RSt) : (rno rs).length = rs.su.length := setAll_len _ _
def rcrashS (rs : RSt) (keep : List Int) : RSt := { su := tearL keep 0 (rs.L.map toWr) rs.su, L := [], fz := false, n := rs.n, off := false }
theorem spl_tear1 {y : List UInt8} {s : ByteArray} {k : Nat} (hy : y.length = 64) (hs : s.size ≤ 64) (hk : k ≤ 64) : spl y s 0 k = tear y (pad s) k := by
  unfold spl tear
  rw [if_pos hk]
  simp
theorem spl_tear2 {y : List UInt8} {s : ByteArray} {k f : Nat} (hy : y.length = 64) (hs : s.size ≤ 64) (hk : 64 < k) (hf : f = 128 - k) : spl y s f (64 - f) = tear y (pad s) k := by
  have hp := pad_len hs
  unfold spl tear
  rw [if_neg (by omega), ← hf, List.take_of_length_le (l := (pad s).drop f) (by simp; omega), List.drop_of_length_le (l := y) (by omega), List.append_nil]
theorem tearL64 {keep : List Int} : ∀ {lo : List Wr} {j : Nat} {b : Secs}, (∀ d ∈ b, d.length = 64) → (∀ x ∈ lo, x.2.length = 64 ∧ x.1 < b.length) → ∀ d ∈ tearL keep j lo b, d.length = 64
  | [], j, b, hb, _ => hb
  | x :: r, j, b, hb, hx => by
    unfold tearL
    obtain ⟨h64, hlt⟩ := hx x (by simp)
    refine tearL64 (fun d hd => ?_) (fun y hy => by rw [List.length_set]; exact hx y (List.mem_cons_of_mem _ hy))
    rcases List.mem_or_eq_of_mem_set hd with hd | rfl
    · exact hb d hd
    · refine tear_len ?_ h64
      rw [List.getD_eq_getElem?_getD, List.getElem?_eq_getElem hlt]
      exact hb _ (List.getElem_mem hlt)
theorem kept_sets2 {X : Nat → Prop} {a b : World} (h : Kept X a b) {g : Nat} {b' : World} (k : Kept (fun j => j = g) b b') (hg : X g) : Kept X a b' := h.trans k (fun _ _ h => h) (fun _ _ e => by subst e; exact hg)
end Go.Proofs.YtdebfnlnpfienaaGreatDoor

/- Both plates side by side: what they have in common, step by step. -/
namespace Go.Proofs.YtdebfnlnpfienaaGreatDoor
open Go.RowKit Lift
set_option linter.unusedSimpArgs false
set_option linter.unusedVariables false

structure Rel (st : St) (rs : RSt) : Prop where
  good : Good st
  su : rs.su = st.su
  lo : st.lo = rs.L.map toWr
  fz : rs.fz = decide (0 ≤ st.fu)
  n : 0 ≤ st.fu → rs.n = st.fu
  off : rs.off = st.off
  f1 : -1 ≤ st.fu
  at' : ∀ x ∈ st.lo, x.1 < st.su.length
theorem Rel.no {st : St} {rs : RSt} (h : Rel st rs) : rno rs = st.no := by
  unfold rno; rw [← h.lo, h.su, ← h.good.eq]
theorem Rel.len {st : St} {rs : RSt} (h : Rel st rs) : rs.su.length = st.no.length := by rw [h.su, h.good.len]
theorem Rel.pos {st : St} {rs : RSt} (h : Rel st rs) : rs.fz = true → 0 ≤ rs.n := by
  intro hf
  rw [h.fz] at hf
  have h0 : 0 ≤ st.fu := by simpa using hf
  rw [h.n h0]; exact h0
theorem Rel.new (n : Nat) : Rel (St.new n) (RSt.new n) := ⟨Good.new n, rfl, rfl, rfl, fun h => by simp [St.new] at h, rfl, by simp [St.new], by simp [St.new]⟩
theorem Rel.there {st : St} {rs : RSt} (h : Rel st rs) (x : Int) : rthereE rs x = thereE st x := by
  unfold rthereE thereE; rw [h.off, h.len]
theorem Rel.get {st : St} {rs : RSt} (h : Rel st rs) (x : Int) : rgetV rs x = getV st x := by
  unfold rgetV getV; rw [h.there, h.no]
theorem Rel.burn {st : St} {rs : RSt} (h : Rel st rs) : stepE rs = burnE st ∧ Rel (burnS st) (stepS rs) := by
  unfold stepE stepS burnE
  have hg := h.good.burn
  by_cases h0 : st.fu = 0
  · have hf : rs.fz = true := by rw [h.fz]; simp [h0]
    have hn : rs.n = 0 := by rw [h.n (by omega), h0]
    simp only [hf, hn, h0, ↓reduceIte]
    refine ⟨trivial, ?_⟩
    unfold burnS at hg ⊢
    simp only [h0, ↓reduceIte] at hg ⊢
    exact ⟨hg, h.su, h.lo, by simp, by simp [h0], rfl, by simp, h.at'⟩
  · by_cases h1 : 0 < st.fu
    · have hf : rs.fz = true := by rw [h.fz]; simp; omega
      have hn : rs.n = st.fu := h.n (by omega)
      have hn0 : ¬ rs.n = 0 := by omega
      simp only [hf, hn0, h0, ↓reduceIte]
      refine ⟨trivial, ?_⟩
      unfold burnS at hg ⊢
      simp only [h0, h1, ↓reduceIte] at hg ⊢
      exact ⟨hg, h.su, h.lo, by simp; omega, fun _ => by show rs.n - 1 = st.fu - 1; omega, h.off, by show -1 ≤ st.fu - 1; omega, h.at'⟩
    · have hf : rs.fz = false := by rw [h.fz]; simp; omega
      simp only [hf, h0, Bool.false_eq_true, ↓reduceIte]
      refine ⟨trivial, ?_⟩
      unfold burnS
      simp only [h0, h1, ↓reduceIte]
      exact h
theorem Rel.put {st : St} {rs : RSt} (h : Rel st rs) (x : Int) (s : ByteArray) : errP rs x s = putE st x s ∧ Rel (putS st x s) (rputS rs x s) := by
  have hb := h.burn
  have hg := h.good.put x s
  unfold errP rputS putE putS thereE
  unfold putS thereE at hg
  rw [h.off, h.len]
  by_cases h1 : st.off = true
  · simp only [h1, ↓reduceIte] at hg ⊢
    exact ⟨by simp, by simpa using h⟩
  · simp only [h1, ↓reduceIte, Bool.false_eq_true] at hg ⊢
    by_cases h2 : x < 0 ∨ (st.no.length : Int) ≤ x
    · simp only [h2, ↓reduceIte] at hg ⊢
      exact ⟨by simp, by simpa using h⟩
    · simp only [h2, ↓reduceIte] at hg ⊢
      by_cases h3 : 64 < s.size
      · simp only [h3, ↓reduceIte]
        exact ⟨trivial, h⟩
      · simp only [h3, ↓reduceIte] at hg ⊢
        rw [hb.1]
        refine ⟨rfl, ?_⟩
        by_cases h4 : burnE st = 0
        · simp only [h4, ↓reduceIte] at hg ⊢
          have hR := hb.2
          refine ⟨hg, hR.su, ?_, hR.fz, hR.n, hR.off, hR.f1, ?_⟩
          · show (burnS st).lo ++ [(x.toNat, pad s)] = ((stepS rs).L ++ [(x, s)]).map toWr
            rw [List.map_append, ← hR.lo]; rfl
          · intro y hy
            rcases List.mem_append.1 hy with hy | hy
            · exact hR.at' y hy
            · simp only [List.mem_singleton] at hy
              rw [hy]
              show x.toNat < (burnS st).su.length
              rw [burnS_same.1, h.good.len]; omega
        · simp only [h4, ↓reduceIte]
          exact hb.2
theorem Rel.sync {st : St} {rs : RSt} (h : Rel st rs) : rsyncE rs = syncE st ∧ Rel (syncS st) (rsyncS rs) := by
  have hb := h.burn
  unfold rsyncE syncE rsyncS syncS
  rw [h.off]
  by_cases h1 : st.off = true
  · simp only [h1, ↓reduceIte]
    exact ⟨trivial, h⟩
  · simp only [h1, ↓reduceIte, Bool.false_eq_true]
    rw [hb.1]
    refine ⟨rfl, ?_⟩
    by_cases h4 : burnE st = 0
    · simp only [h4, ↓reduceIte]
      have hR := hb.2
      rw [h.good.settle, h.no]
      refine ⟨⟨h.good.n64, by simp, ?_⟩, rfl, rfl, hR.fz, hR.n, hR.off, hR.f1, by simp⟩
      show (burnS st).no = setAll [] st.no
      rw [burnS_same.2.1]; rfl
    · simp only [h4, ↓reduceIte]
      exact hb.2
theorem Rel.fuse {st : St} {rs : RSt} (h : Rel st rs) (n : Int) : Rel { st with fu := max n (-1) } { rs with fz := decide (0 ≤ n), n := n } :=
  ⟨⟨h.good.su64, h.good.lo64, h.good.eq⟩, h.su, h.lo, by
    show decide (0 ≤ n) = decide (0 ≤ max n (-1))
    rw [Bool.eq_iff_iff]; simp; omega, fun h0 => by
    have h0' : 0 ≤ max n (-1) := h0
    show n = max n (-1); omega, h.off, by show -1 ≤ max n (-1); omega, h.at'⟩
theorem Rel.crash {st : St} {rs : RSt} (h : Rel st rs) (keep : List Int) : Rel (crashS st keep) (rcrashS rs keep) := by
  rw [h.good.crash]
  unfold rcrashS
  rw [h.su, ← h.lo]
  refine ⟨⟨tearL64 h.good.su64 (fun x hx => ⟨h.good.lo64 x hx, h.at' x hx⟩), by simp, rfl⟩, rfl, rfl, rfl, fun h0 => by simp at h0, rfl, by simp, by simp⟩

/-! ### The memory of both, and what is to be left alone -/
/-- From base on, what is to be left alone aside. -/
def Free (base : Nat) (O : Nat → Prop) (k : Nat) : Prop := base ≤ k ∧ ¬ O k
end Go.Proofs.YtdebfnlnpfienaaGreatDoor

/- Do: a call of both. -/
namespace Go.Proofs.YtdebfnlnpfienaaGreatDoor
open Go.RowKit Lift
set_option linter.unusedSimpArgs false
set_option linter.unusedVariables false

section
variable {base : Nat} {w : World} {O : Nat → Prop} {ab rb : Nat} {st : St} {rs : RSt}
end
def fuseS (st : St) (n : Int) : St := { st with fu := max n (-1) }
def rfuseS (rs : RSt) (n : Int) : RSt := { rs with fz := decide (0 ≤ n), n := n }
theorem Rel.fuse2 {st : St} {rs : RSt} (h : Rel st rs) (n : Int) : Rel (fuseS st n) (rfuseS rs n) := h.fuse n
theorem int_row2 : (Tryz.prog.info? 3).map (fun i => (i.zero, i.size, i.bytes)) = some (some (.int .i64 0), 1, 8) := by kernel_rfl
theorem int_flat : Flat (Rd.int .i64) := fun _ _ _ _ _ _ h => h
theorem int_ones : ∀ S w cs c, (Rd.int .i64).rel S w cs c → ∀ u ∈ cs, u.oneCell' = true := by
  rintro S w cs c ⟨rfl, _⟩ u hu
  simp at hu; subst hu; rfl
theorem Rel.lrle {st : St} {rs : RSt} (h : Rel st rs) {n : Nat} (h1 : st.lo.length ≤ n + 1) (h2 : n ≤ 1000000) : rs.L.length ≤ 1000000000 := by
  have : st.lo.length = rs.L.length := by rw [h.lo, List.length_map]
  omega
def BoxC (w : World) (tb : Nat) (c : Op4) (ko : Option Addr) (kcap : Nat) : Prop :=
  w.cell? ⟨tb, 0, none⟩ = some (.int .i64 c.1) ∧ w.cell? ⟨tb, 1, none⟩ = some (.int .i64 c.2.1) ∧ w.cell? ⟨tb, 2, none⟩ = some (.string c.2.2.1) ∧ w.cell? ⟨tb, 3, none⟩ = some (.slice ko c.2.2.2.length kcap)
theorem BoxC.kept {w w' : World} {tb : Nat} {c : Op4} {ko : Option Addr} {kcap : Nat} {X : Nat → Prop} (h : BoxC w tb c ko kcap) (hk : Kept X w w') (hx : ¬ X tb) (hlt : tb < w.heap.size) : BoxC w' tb c ko kcap :=
  ⟨(hk.cell (p := ⟨tb, 0, none⟩) hlt hx).trans h.1, (hk.cell (p := ⟨tb, 1, none⟩) hlt hx).trans h.2.1, (hk.cell (p := ⟨tb, 2, none⟩) hlt hx).trans h.2.2.1, (hk.cell (p := ⟨tb, 3, none⟩) hlt hx).trans h.2.2.2⟩
theorem kept2 {base : Nat} {O : Nat → Prop} {a b c : World} (h : Kept (Free base O) a b) (k : Kept (Free base O) b c) : Kept (Free base O) a c := h.trans k (fun _ _ h => h) (fun _ _ h => h)
theorem put_lo {st : St} {x : Int} {s : ByteArray} : (putS st x s).lo.length ≤ st.lo.length + 1 := by
  unfold putS
  split
  · split
    · omega
    · split
      · show ((burnS st).lo ++ _).length ≤ _
        rw [burnS_same.2.2]; simp
      · rw [burnS_same.2.2]; omega
  · omega
theorem sync_lo {st : St} : (syncS st).lo.length ≤ st.lo.length + 1 := by
  unfold syncS
  split
  · omega
  · split
    · simp
    · rw [burnS_same.2.2]; omega
end Go.Proofs.YtdebfnlnpfienaaGreatDoor
