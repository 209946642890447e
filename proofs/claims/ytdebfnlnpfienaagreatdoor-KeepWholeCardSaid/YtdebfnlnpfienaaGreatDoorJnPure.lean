/- Records in sectors: what a journal is, in plain lists (no program in sight). -/
import Derived.Test.YtdebfnlnpfienaaGreatDoorPlB
import Derived.Test.YtdebfnlnpfienaaGreatDoorCrc
namespace Go.Proofs.YtdebfnlnpfienaaGreatDoor
open Go.RowKit Lift Crc
set_option linter.unusedSimpArgs false
set_option linter.unusedVariables false

/-! ### Heads -/
def u8n (n : Nat) : UInt8 := UInt8.ofNat n
def fourL (n : Nat) : List UInt8 := [u8n n, u8n (n / 256), u8n (n / 65536), u8n (n / 16777216)]
def twoL (s : ByteArray) : List UInt8 := [lo (crc s.data.toList), hi (crc s.data.toList)]
/-- The head of a record of a number. -/
def headL (t gen : Nat) (s : ByteArray) : List UInt8 := ([165] ++ fourL t ++ fourL gen ++ fourL s.size ++ twoL s) ++ (List.replicate 48 0 ++ [90])
theorem headL_len (t gen : Nat) (s : ByteArray) : (headL t gen s).length = 64 := by simp [headL, fourL, twoL]
def le4 (h : List UInt8) : Nat := (h.getD 9 0).toNat + (h.getD 10 0).toNat * 256 + (h.getD 11 0).toNat * 65536 + (h.getD 12 0).toNat * 16777216
theorem u8n_toNat (n : Nat) : (u8n n).toNat = n % 256 := by simp [u8n]
theorem le4_headL (t gen : Nat) (s : ByteArray) (hs : s.size < 4294967296) : le4 (headL t gen s) = s.size := by
  simp [le4, headL, fourL, twoL, u8n_toNat]
  omega
theorem headL_first (t gen : Nat) (s : ByteArray) : (headL t gen s).getD 0 0 = 165 ∧ (headL t gen s).getD 63 0 = 90 := by simp [headL, fourL, twoL]
theorem le4_lt (h : List UInt8) : le4 h < 4294967296 := by
  unfold le4
  have h1 := (h.getD 9 0).toNat_lt; have h2 := (h.getD 10 0).toNat_lt; have h3 := (h.getD 11 0).toNat_lt; have h4 := (h.getD 12 0).toNat_lt
  omega
/-- How many sectors a record takes. -/
def needN (n : Nat) : Nat := 1 + (n + 63) / 64

/-! ### Records found -/
def bytesAt (no : Secs) (a n : Nat) : List UInt8 := ((no.drop a).take n).flatten
theorem bytesAt_zero (no : Secs) (a : Nat) : bytesAt no a 0 = [] := by simp [bytesAt]
theorem bytesAt_succ {no : Secs} {a n : Nat} {d : List UInt8} (h : no[a + n]? = some d) : bytesAt no a (n + 1) = bytesAt no a n ++ d := by
  unfold bytesAt
  have h2 : (no.drop a)[n]? = some d := by rw [List.getElem?_drop]; exact h
  rw [take_at2 h2]; simp
theorem bytesAt_len {no : Secs} {a n : Nat} (h64 : ∀ d ∈ no, d.length = 64) (h : a + n ≤ no.length) : (bytesAt no a n).length = 64 * n := by
  induction n with
  | zero => simp [bytesAt_zero]
  | succ n ih =>
    obtain ⟨d, hd⟩ := some_at (l := no) (k := a + n) (by omega)
    rw [bytesAt_succ hd, List.length_append, ih (by omega), h64 d (List.mem_of_getElem? hd)]
    omega
def recText (no : Secs) (en n : Nat) : ByteArray := ⟨((bytesAt no (en + 1) (needN n - 1)).take n).toArray⟩
def nextRec (no : Secs) (lim gen t en : Nat) : Option ByteArray :=
  if le4 (no.getD en []) ≤ 1048576 ∧ en + needN (le4 (no.getD en [])) + 1 ≤ lim ∧ headL t gen (recText no en (le4 (no.getD en []))) = no.getD en [] then some (recText no en (le4 (no.getD en []))) else none
theorem recText_size {no : Secs} {en n : Nat} (h64 : ∀ d ∈ no, d.length = 64) (h : en + needN n ≤ no.length) : (recText no en n).size = n := by
  have h1 : (bytesAt no (en + 1) (needN n - 1)).length = 64 * (needN n - 1) := bytesAt_len h64 (by unfold needN at *; omega)
  have : (recText no en n).size = ((bytesAt no (en + 1) (needN n - 1)).take n).length := by simp [recText, ByteArray.size]
  rw [this, List.length_take, h1]
  unfold needN; omega
theorem nextRec_some {no : Secs} {lim gen t en : Nat} {s : ByteArray} (h64 : ∀ d ∈ no, d.length = 64) (hl : lim ≤ no.length) (h : nextRec no lim gen t en = some s) :
    s.size ≤ 1048576 ∧ en + needN s.size + 1 ≤ lim ∧ le4 (no.getD en []) = s.size ∧ s = recText no en s.size ∧ headL t gen s = no.getD en [] := by
  unfold nextRec at h
  split at h
  · rename_i h0
    obtain ⟨h1, h2, h3⟩ := h0
    injection h with h
    have hz := recText_size h64 (Nat.le_trans (by omega) hl : en + needN (le4 (no.getD en [])) ≤ no.length)
    rw [h] at hz h3
    rw [hz]
    exact ⟨h1, h2, rfl, h.symm, h3⟩
  · cases h
/-- The records from an end on, at most so many. -/
def foundL (nx : Nat → Nat → Option ByteArray) : Nat → List ByteArray → Nat → List ByteArray × Nat
  | 0, l, en => (l, en)
  | f + 1, l, en => match nx l.length en with
    | none => (l, en)
    | some s => foundL nx f (l ++ [s]) (en + needN s.size)
theorem foundL_none {nx : Nat → Nat → Option ByteArray} {f en : Nat} {l : List ByteArray} (h : nx l.length en = none) : foundL nx f l en = (l, en) := by
  cases f with
  | zero => rfl
  | succ f => show (match nx l.length en with | none => (l, en) | some s => foundL nx f (l ++ [s]) (en + needN s.size)) = _; rw [h]
theorem foundL_some {nx : Nat → Nat → Option ByteArray} {f en : Nat} {l : List ByteArray} {s : ByteArray} (h : nx l.length en = some s) : foundL nx (f + 1) l en = foundL nx f (l ++ [s]) (en + needN s.size) := by
  show (match nx l.length en with | none => (l, en) | some s => foundL nx f (l ++ [s]) (en + needN s.size)) = _
  rw [h]
/-- A journal's own: where it ends, the generation, its records, the next head's place, whether an Append failed. -/
structure JSt where
  lim : Nat
  gen : Nat
  recs : List ByteArray
  en : Nat
  dead : Bool

/-! ### Steps of a plate, one behind another, up to the first error -/
abbrev Step := Option (Nat × ByteArray)
def stepSt (st : St) : Step → St
  | some (a, s) => putS st a s
  | none => syncS st
def stepEr (st : St) : Step → Int
  | some (a, s) => putE st a s
  | none => syncE st
def runOps : St → List Step → St × Int
  | st, [] => (st, 0)
  | st, o :: r => if stepEr st o = 0 then runOps (stepSt st o) r else (stepSt st o, stepEr st o)
theorem runOps_append : ∀ (l m : List Step) (st : St), runOps st (l ++ m) = if (runOps st l).2 = 0 then runOps (runOps st l).1 m else runOps st l
  | [], m, st => by simp [runOps]
  | o :: r, m, st => by
    simp only [List.cons_append, runOps]
    split
    · exact runOps_append r m _
    · rename_i h; simp [h]
/-- A part of a text that a sector takes. -/
def chunkB (s : ByteArray) (i : Nat) : ByteArray := s.extract (64 * i) (min (64 * (i + 1)) s.size)
def layOps (en : Nat) (s : ByteArray) (k : Nat) : List Step := (List.range k).map fun i => some (en + 1 + i, chunkB s i)
theorem layOps_succ (en : Nat) (s : ByteArray) (k : Nat) : layOps en s (k + 1) = layOps en s k ++ [some (en + 1 + k, chunkB s k)] := by simp [layOps, List.range_succ]
def headB (t gen : Nat) (s : ByteArray) : ByteArray := ⟨(headL t gen s).toArray⟩
def appOps (js : JSt) (s : ByteArray) : List Step := layOps js.en s ((s.size + 63) / 64) ++ [some (js.en + needN s.size, ⟨#[]⟩), none, some (js.en, headB js.recs.length js.gen s), none]
def leftI (js : JSt) : Int := max (-1) (min 1048576 (64 * ((js.lim : Int) - js.en - 2)))
def appE (st : St) (js : JSt) (s : ByteArray) : Int := if js.dead then 12 else if leftI js < s.size then 4 else (runOps st (appOps js s)).2
def appS (st : St) (js : JSt) (s : ByteArray) : St := if js.dead then st else if leftI js < s.size then st else (runOps st (appOps js s)).1
def appJ (st : St) (js : JSt) (s : ByteArray) : JSt := if js.dead then js else if leftI js < s.size then js else if (runOps st (appOps js s)).2 = 0 then { js with recs := js.recs ++ [s], en := js.en + needN s.size } else { js with dead := true }
end Go.Proofs.YtdebfnlnpfienaaGreatDoor
