/- Contacts: the order of two fields, the program's and the reference's. -/
import Derived.Test.YtmgckaokjhfkaaaCo4
import Derived.Test.YtmgckaokjhfkaaaShelf
import Derived.Deep.RegionHeld3
namespace Go.Proofs.Ytmgckaokjhfkaaa
open Go.RowKit Lift
set_option linter.unusedSimpArgs false
set_option linter.unusedVariables false


theorem cmp_less : ∀ a b : List UInt8, Lib.compareBytes a b = if Op.bytesLess a b = true then -1 else if a = b then 0 else 1
  | [], [] => by simp [Lib.compareBytes, Op.bytesLess]
  | [], b :: y => by simp [Lib.compareBytes, Op.bytesLess]
  | a :: x, [] => by simp [Lib.compareBytes, Op.bytesLess]
  | a :: x, b :: y => by
    have ih := cmp_less x y
    rw [Lib.compareBytes, Op.bytesLess]
    by_cases h1 : a < b
    · simp [h1]
    · by_cases h2 : a = b
      · subst h2
        simp [ih]
      · have h3 : b < a := by
          have e1 : a.toNat ≠ b.toNat := fun e => h2 (UInt8.toNat_inj.1 e)
          have e2 : ¬ a.toNat < b.toNat := fun e => h1 (UInt8.lt_iff_toNat_lt.2 e)
          exact UInt8.lt_iff_toNat_lt.2 (by omega)
        simp [h1, h2, h3]

def firstNZ : List Int → Int
  | [] => 0
  | x :: r => if x = 0 then firstNZ r else x
theorem int_get {S : Nat → Prop} {w : World} {ao : Option Addr} {l : List Int} (h : SlAt (Rd.int .i64) S w ao l) {k : Nat} {c : Int} (hk : l[k]? = some c) : ∃ b off, ao = some ⟨b, off, none⟩ ∧ S b ∧ b < w.heap.size ∧ w.cell? ⟨b, off + k, none⟩ = some (.int .i64 c) ∧ Wf c := by
  obtain ⟨b, off, cs, rfl, hs, hlt, ⟨rfl, h1⟩, hc⟩ := h.get hk
  exact ⟨b, off, rfl, hs, hlt, by have := hc 0 _ rfl; simpa [Rd.int] using this, h1⟩
set_option maxHeartbeats 1000000 in
set_option maxRecDepth 100000 in
theorem or_any (ao : Option Addr) (cap : Nat) (l : List Int) (w : World) (hl : SlAt (Rd.int .i64) (· < w.heap.size) w ao l) (hlen : l.length ≤ 100000) :
    Calls Try.prog 22 #[.slice ao l.length cap] w (BelowPost (.int .i64 (firstNZ l)) w) := by
  go_enter Try.func22, Try.ntmps22
  go_wp2_with fail
  go_loopw [8] (fun v8 wr => ∃ k : Nat, k ≤ l.length ∧ v8 = .int .i64 k ∧ Hid (firstNZ l = firstNZ (l.drop k)) ∧ Below w.heap.size w wr) (fun v8 _ => l.length - (intOf v8).toNat)
  case atStart => exact ⟨0, by omega, rfl, Lib.hid rfl, Below.refl _ _⟩
  case round =>
    obtain ⟨k, hk, rfl, hix, hb⟩ := hrel
    by_cases hkl : k < l.length
    · obtain ⟨c, hcl⟩ := some_at hkl
      obtain ⟨bb, oo, rfl, hs1, hb1, x0, hwf⟩ := int_get (hl.old hb) hcl
      have hkl2 : (k : Int) < (l.length : Int) := by omega
      have hlim : k ≤ 100000 := by omega
      have hi2 := hix.out
      rw [drop_at2 hcl, firstNZ] at hi2
      by_cases hc0 : c = 0
      · have d0 : (c != 0) = false := by simp [hc0]
        have HI := Lib.hid (show firstNZ l = firstNZ (l.drop (k + 1)) by rw [hi2, if_pos hc0])
        clear hi2 hc0 hix
        go_wp2_with fail
        go_roundw
        case measure => simp [intOf]; omega
        case rel => exact ⟨k + 1, by omega, by go_num, HI, hb⟩
      · have d0 : (c != 0) = true := by simp [hc0]
        have HI := Lib.hid (show firstNZ l = c by rw [hi2, if_neg hc0])
        clear hi2 hc0 hix
        go_wp2_with fail
        go_ret
        exact ⟨by rw [HI.out]; rfl, hb⟩
    · obtain rfl : k = l.length := by omega
      have hi2 := hix.out
      rw [List.drop_length, firstNZ] at hi2
      have HI := Lib.hid hi2
      clear hi2 hix
      go_wp2_with fail
      go_ret
      exact ⟨by rw [HI.out]; rfl, hb⟩

theorem cmp_call (a b : ByteArray) (w : World) : Calls Try.prog 23 #[.string a, .string b] w (BelowPost (.int .i64 (Lib.compareBytes a.data.toList b.data.toList)) w) :=
  (Try.strings_Compare a b w).mono fun e w' ⟨he, hw⟩ => ⟨he, by rw [hw]; exact Below.refl _ _⟩
theorem cmp_wf (a b : List UInt8) : Wf (Lib.compareBytes a b) := by
  rw [cmp_less]; split
  · exact Wf.of (by omega) (by omega)
  · split <;> exact Wf.of (by omega) (by omega)
theorem ints3 (w : World) (x y z : Int) (g : Nat) (hg : g = w.heap.size) (h1 : Wf x) (h2 : Wf y) (h3 : Wf z) : SlAt (Rd.int .i64) (· < (w.alloc (.cells #[.int .i64 x, .int .i64 y, .int .i64 z] 3)).heap.size) (w.alloc (.cells #[.int .i64 x, .int .i64 y, .int .i64 z] 3)) (some ⟨g, 0, none⟩) [x, y, z] := by
  subst hg
  refine .inr ⟨w.heap.size, 0, rfl, by simp, by simp, fun k c hk => ⟨[.int .i64 c], ⟨rfl, ?_⟩, fun i v hi => ?_⟩⟩
  · match k, hk with
    | 0, hk => simp at hk; subst hk; exact h1
    | 1, hk => simp at hk; subst hk; exact h2
    | 2, hk => simp at hk; subst hk; exact h3
  · match i, hi with
    | 0, hi =>
      simp at hi; subst hi
      match k, hk with
      | 0, hk => simp at hk; subst hk; simp [go_sem, Rd.int]
      | 1, hk => simp at hk; subst hk; simp [go_sem, Rd.int]
      | 2, hk => simp at hk; subst hk; simp [go_sem, Rd.int]

def cmpF (a b : Fld) : Int := firstNZ [Lib.compareBytes a.1.data.toList b.1.data.toList, Lib.compareBytes a.2.1.data.toList b.2.1.data.toList, Lib.compareBytes a.2.2.data.toList b.2.2.data.toList]
set_option maxHeartbeats 1000000 in
set_option maxRecDepth 100000 in
theorem compare_any (a b : Fld) (w : World) : Calls Try.prog 14 #[encFld a, encFld b] w (BelowPost (.int .i64 (cmpF a b)) w) := by
  have hA : Below w.heap.size w ((w.alloc (.cells #[.string a.1, .string a.2.1, .string a.2.2] 34)).alloc (.cells #[.string b.1, .string b.2.1, .string b.2.2] 34)) := ((Below.refl _ _).alloc (Nat.le_refl _) _).alloc (by simp) _
  unfold cmpF
  have H1 := Lib.hid (fun wx => cmp_call a.1 b.1 wx)
  have H2 := Lib.hid (fun wx => cmp_call a.2.1 b.2.1 wx)
  have H3 := Lib.hid (fun wx => cmp_call a.2.2 b.2.2 wx)
  have r1 := cmp_wf a.1.data.toList b.1.data.toList
  have r2 := cmp_wf a.2.1.data.toList b.2.1.data.toList
  have r3 := cmp_wf a.2.2.data.toList b.2.2.data.toList
  unfold encFld
  generalize Lib.compareBytes a.1.data.toList b.1.data.toList = x at *
  generalize Lib.compareBytes a.2.1.data.toList b.2.1.data.toList = y at *
  generalize Lib.compareBytes a.2.2.data.toList b.2.2.data.toList = z at *
  go_enter Try.func14, Try.ntmps14
  go_wp2_with fail
  obtain ⟨w2, hw2⟩ : ∃ w2, ((w.alloc (.cells #[.string a.1, .string a.2.1, .string a.2.2] 34)).alloc (.cells #[.string b.1, .string b.2.1, .string b.2.2] 34)) = w2 := ⟨_, rfl⟩
  have HK := Lib.hid (show ∀ w', Below w2.heap.size w2 w' → Below w2.heap.size w2 w' ∧ w'.cell? ⟨w.heap.size, 0, none⟩ = some (.string a.1) ∧ w'.cell? ⟨w.heap.size, 1, none⟩ = some (.string a.2.1) ∧ w'.cell? ⟨w.heap.size, 2, none⟩ = some (.string a.2.2) ∧ w'.cell? ⟨w.heap.size + 1, 0, none⟩ = some (.string b.1) ∧ w'.cell? ⟨w.heap.size + 1, 1, none⟩ = some (.string b.2.1) ∧ w'.cell? ⟨w.heap.size + 1, 2, none⟩ = some (.string b.2.2) by
    intro w' hb
    subst hw2
    obtain ⟨hc, _⟩ := bcell hb
    simp only [World.size_alloc] at hc
    refine ⟨hb, ?_, ?_, ?_, ?_, ?_, ?_⟩
    all_goals (rw [hc _ _ (by omega)]; simp [go_sem]))
  rw [hw2] at hA ⊢
  clear hw2
  have hb0 := Below.refl w2.heap.size w2
  go_region_held3 (fun w' => Below w2.heap.size w2 w' ∧ w'.cell? ⟨w.heap.size, 0, none⟩ = some (.string a.1) ∧ w'.cell? ⟨w.heap.size, 1, none⟩ = some (.string a.2.1) ∧ w'.cell? ⟨w.heap.size, 2, none⟩ = some (.string a.2.2) ∧ w'.cell? ⟨w.heap.size + 1, 0, none⟩ = some (.string b.1) ∧ w'.cell? ⟨w.heap.size + 1, 1, none⟩ = some (.string b.2.1) ∧ w'.cell? ⟨w.heap.size + 1, 2, none⟩ = some (.string b.2.2))
    (first | exact HK.out _ (by assumption) | exact HK.out _ (chain (‹Below w2.heap.size w2 _ ∧ _›).1 (by assumption)) | exact HK.out _ (Below.drew (by assumption)) | exact HK.out _ ((‹Below w2.heap.size w2 _ ∧ _›).1.alloc (‹Below w2.heap.size w2 _ ∧ _›).1.size _))
    (first
      | (go_at_call_of 23 a.1; refine (H1.out _).mono ?_; rintro e w5 ⟨rfl, hb5⟩)
      | (go_at_call_of 23 a.2.1; refine (H2.out _).mono ?_; rintro e w6 ⟨rfl, hb6⟩)
      | (go_at_call_of 23 a.2.2; refine (H3.out _).mono ?_; rintro e w7 ⟨rfl, hb7⟩)
      | (go_at_call 22; refine (or_any _ 3 [x, y, z] _ (ints3 _ x y z _ (by simp) r1 r2 r3) (by simp)).mono ?_; rintro e w8 ⟨rfl, hb8⟩))
  all_goals
    go_wp2_with fail
    go_ret
    exact ⟨rfl, hA.trans ((‹Below w2.heap.size w2 _ ∧ _›).1.mono hA.size)⟩

set_option maxHeartbeats 1000000 in
set_option maxRecDepth 100000 in
theorem order_any (a b : ByteArray) (w : World) : Calls Try.prog 24 #[.string a, .string b] w (BelowPost (.int .i64 (Lib.compareBytes a.data.toList b.data.toList)) w) := by
  rw [cmp_less, ← byte_list, ← byte_list]
  cases hlt : Op.bytesLess a.toList b.toList with
  | true =>
    go_enter Try.func24, Try.ntmps24
    go_wp2_with fail
    go_ret
    exact ⟨rfl, Below.refl _ _⟩
  | false =>
    by_cases he : a.toList = b.toList
    · have hq : (a.toList == b.toList) = true := by simpa using he
      rw [if_neg (by simp), if_pos he]
      clear he
      go_enter Try.func24, Try.ntmps24
      go_wp2_with fail
      go_ret
      exact ⟨rfl, Below.refl _ _⟩
    · have hq : (a.toList == b.toList) = false := by simpa using he
      rw [if_neg (by simp), if_neg he]
      clear he
      go_enter Try.func24, Try.ntmps24
      go_wp2_with fail
      go_ret
      exact ⟨rfl, Below.refl _ _⟩

theorem cmp_zero (a b : ByteArray) : Lib.compareBytes a.data.toList b.data.toList = 0 ↔ a = b := by
  rw [cmp_less]
  constructor
  · intro h
    split at h
    · omega
    · split at h
      · rename_i h2; exact str_ext (by rw [byte_list, byte_list, h2])
      · omega
  · rintro rfl
    have : ∀ l : List UInt8, Op.bytesLess l l = false := by
      intro l; induction l with
      | nil => rfl
      | cons x l ih => rw [Op.bytesLess, ih]; simp
    rw [this]; simp
theorem cmpF_eq (a b : Fld) : cmpF a b = if a.1 = b.1 then (if a.2.1 = b.2.1 then Lib.compareBytes a.2.2.data.toList b.2.2.data.toList else Lib.compareBytes a.2.1.data.toList b.2.1.data.toList) else Lib.compareBytes a.1.data.toList b.1.data.toList := by
  unfold cmpF
  simp only [firstNZ, cmp_zero]
  by_cases h1 : a.1 = b.1
  · rw [if_pos h1, if_pos h1]
    by_cases h2 : a.2.1 = b.2.1
    · rw [if_pos h2, if_pos h2]
      by_cases h3 : a.2.2 = b.2.2
      · rw [if_pos h3]; exact ((cmp_zero _ _).2 h3).symm
      · rw [if_neg h3]
    · rw [if_neg h2, if_neg h2]
  · rw [if_neg h1, if_neg h1]

set_option maxHeartbeats 1000000 in
set_option maxRecDepth 100000 in
theorem compare_ref (a b : Fld) (w : World) : Calls Try.prog 15 #[encFld a, encFld b] w (BelowPost (.int .i64 (cmpF a b)) w) := by
  have hA : Below w.heap.size w ((w.alloc (.cells #[.string a.1, .string a.2.1, .string a.2.2] 34)).alloc (.cells #[.string b.1, .string b.2.1, .string b.2.2] 34)) := ((Below.refl _ _).alloc (Nat.le_refl _) _).alloc (by simp) _
  rw [cmpF_eq]
  have H1 := Lib.hid (fun wx => order_any a.1 b.1 wx)
  have H2 := Lib.hid (fun wx => order_any a.2.1 b.2.1 wx)
  have H3 := Lib.hid (fun wx => order_any a.2.2 b.2.2 wx)
  unfold encFld
  by_cases h1 : a.1 = b.1
  · have e1 : (a.1.toList == b.1.toList) = true := by rw [str_eq]; simpa using h1
    rw [if_pos h1]
    clear h1
    by_cases h2 : a.2.1 = b.2.1
    · have e2 : (a.2.1.toList == b.2.1.toList) = true := by rw [str_eq]; simpa using h2
      rw [if_pos h2]
      clear h2
      go_enter Try.func15, Try.ntmps15
      go_wp2_with fail
      refine (H3.out _).mono ?_
      rintro e w3 ⟨rfl, hb3⟩
      go_wp2_with fail
      go_ret
      exact ⟨rfl, chain hA hb3⟩
    · have e2 : (a.2.1.toList == b.2.1.toList) = false := by rw [str_eq]; simpa using h2
      rw [if_neg h2]
      clear h2
      go_enter Try.func15, Try.ntmps15
      go_wp2_with fail
      refine (H2.out _).mono ?_
      rintro e w3 ⟨rfl, hb3⟩
      go_wp2_with fail
      go_ret
      exact ⟨rfl, chain hA hb3⟩
  · have e1 : (a.1.toList == b.1.toList) = false := by rw [str_eq]; simpa using h1
    rw [if_neg h1]
    clear h1
    go_enter Try.func15, Try.ntmps15
    go_wp2_with fail
    refine (H1.out _).mono ?_
    rintro e w3 ⟨rfl, hb3⟩
    go_wp2_with fail
    go_ret
    exact ⟨rfl, chain hA hb3⟩
theorem cmpF_AB : cmpF (⟨#[65]⟩, ⟨#[]⟩, ⟨#[]⟩) (⟨#[66]⟩, ⟨#[]⟩, ⟨#[]⟩) = -1 := by
  unfold cmpF; simp [Lib.compareBytes, firstNZ]

/-! ### Get -/
def PairB (x : ByteArray × Bool) (w : World) (e : Ending) (w' : World) : Prop := e = .returned (.tuple #[.string x.1, .bool x.2]) ∧ Below w.heap.size w w'
def fldOf (name : ByteArray) (l : List Fld) : ByteArray × Bool := match l.find? (fun c => decide (c.1 = name)) with | some c => (c.2.2, true) | none => (ByteArray.empty, false)
theorem fldOf_cons (name : ByteArray) (c : Fld) (r : List Fld) : fldOf name (c :: r) = if c.1 = name then (c.2.2, true) else fldOf name r := by
  unfold fldOf
  rw [List.find?_cons]
  by_cases h : c.1 = name <;> simp [h]
theorem fldOf_none {name : ByteArray} {l : List Fld} (h : idx (fun c => decide (c.1 = name)) 0 l = -1) : fldOf name l = (ByteArray.empty, false) := by
  unfold fldOf
  rw [List.find?_eq_none.2 (fun c hc => by have := idx_none _ _ _ h c hc; simpa using this)]
theorem fldOf_some {name : ByteArray} {l : List Fld} {j : Nat} {c : Fld} (h : idx (fun c => decide (c.1 = name)) 0 l = j) (hj : l[j]? = some c) : fldOf name l = (c.2.2, true) := by
  obtain ⟨d, h1, h2, h3⟩ := idx_at _ _ _ j (by rw [h]; simp)
  rw [hj] at h1; cases h1
  unfold fldOf
  rw [(List.find?_eq_some_iff_getElem (xs := l) (p := fun c => decide (c.1 = name)) (b := c)).2 ⟨h2, j, (List.getElem?_eq_some_iff.1 hj).1, (List.getElem?_eq_some_iff.1 hj).2, fun i hi => by
    have hl := (List.getElem?_eq_some_iff.1 hj).1
    have := h3 (l[i]'(by omega)) (by rw [List.mem_take_iff_getElem]; exact ⟨i, by omega, rfl⟩)
    simpa using this⟩]
set_option maxHeartbeats 1000000 in
set_option maxRecDepth 100000 in
theorem isName (a : Nat) (name : ByteArray) (B : Nat) (W : World) (ha : a < B) (hB : B ≤ W.heap.size) (hc : W.cell? ⟨a, 0, none⟩ = some (.string name)) : PredOf okFld encFld 26 [.pointer (some ⟨a, 0, none⟩)] (fun c => decide (c.1 = name)) B W := by
  refine ⟨fun args w => by kernel_rfl, fun w c hok hb => ?_⟩
  have hcw := (hb.cell (p := ⟨a, 0, none⟩) ha).trans hc
  have hlt : a < w.heap.size := by have := hb.size; omega
  clear hb hc
  show Calls Try.prog 26 #[.agg #[.string c.1, .string c.2.1, .string c.2.2], .pointer (some ⟨a, 0, none⟩)] w _
  go_enter Try.func26, Try.ntmps26
  go_wp2_with fail
  go_ret
  exact ⟨ret_bool (str_eq _ _), (Below.refl _ _).alloc (Nat.le_refl _) _⟩
set_option maxHeartbeats 1000000 in
set_option maxRecDepth 100000 in
theorem get_any (name : ByteArray) (ao : Option Addr) (cap : Nat) (l : List Fld) (w : World) (hl : SlAt rFld (· < w.heap.size) w ao l) (hlen : l.length ≤ 100000) :
    Calls Try.prog 16 #[.agg #[.slice ao l.length cap], .string name] w (PairB (fldOf name l) w) := by
  go_enter Try.func16, Try.ntmps16
  go_wp2_with fail
  have hb1 : Below w.heap.size w ((w.alloc (.cells #[.slice ao l.length cap] 24)).alloc (Obj.cells #[Value.string name] 9)) := ((Below.refl _ _).alloc (Nat.le_refl _) _).alloc (by simp) _
  refine (index_fld1 _ _ _ _ _ (fun c => decide (c.1 = name)) _ (hl.old hb1).here hlen (isName _ name _ _ (by simp) (Nat.le_refl _) (by simp))).mono ?_
  rintro e w3 ⟨rfl, hb3⟩
  obtain ⟨hc3, hf3⟩ := bcell hb3
  have hz3 := bsize hb3
  simp only [World.size_alloc] at hc3 hf3 hz3
  have hB := chain hb1 hb3
  rcases idx_ge (fun c : Fld => decide (c.1 = name)) l 0 with hi | ⟨hi1, hi2⟩
  · have HR := Lib.hid (fldOf_none hi)
    rw [hi]
    clear hi
    go_wp2_with fail
    go_ret2
    exact ⟨by rw [HR.out]; rfl, hB⟩
  · obtain ⟨j, hj⟩ := Int.eq_ofNat_of_zero_le (show 0 ≤ idx (fun c : Fld => decide (c.1 = name)) 0 l by omega)
    obtain ⟨c, hcl⟩ := some_at (show j < l.length by omega)
    have HR := Lib.hid (fldOf_some hj hcl)
    rw [hj] at hi1 hi2 ⊢
    clear hj
    obtain ⟨bb, oo, rfl, hs1, hb4, hok, x0, x1, x2⟩ := fld_get (hl.old hB) hcl
    have hj2 : (j : Int) < (l.length : Int) := by omega
    go_wp2_with fail
    go_ret2
    exact ⟨by rw [HR.out]; rfl, hB⟩
set_option maxHeartbeats 1000000 in
set_option maxRecDepth 100000 in
theorem get_ref (name : ByteArray) (ao : Option Addr) (cap : Nat) (l : List Fld) (w : World) (hl : SlAt rFld (· < w.heap.size) w ao l) (hlen : l.length ≤ 100000) :
    Calls Try.prog 17 #[.agg #[.slice ao l.length cap], .string name] w (PairB (fldOf name l) w) := by
  have hA : Below w.heap.size w (w.alloc (.cells #[.slice ao l.length cap] 24)) := (Below.refl _ _).alloc (Nat.le_refl _) _
  go_enter Try.func17, Try.ntmps17
  go_wp2_with fail
  go_loopw [6] (fun v6 wr => ∃ k : Nat, k ≤ l.length ∧ v6 = .int .i64 k ∧ Hid (fldOf name l = fldOf name (l.drop k)) ∧ Below (w.heap.size + 1) (w.alloc (.cells #[.slice ao l.length cap] 24)) wr) (fun v6 _ => l.length - (intOf v6).toNat)
  case atStart => exact ⟨0, by omega, rfl, Lib.hid rfl, Below.refl _ _⟩
  case round =>
    obtain ⟨k, hk, rfl, hp, hb⟩ := hrel
    obtain ⟨hc, hf⟩ := bcell hb
    have hz := bsize hb
    simp only [World.size_alloc] at hz
    have x0 : wr.cell? ⟨w.heap.size, 0, none⟩ = some (.slice ao l.length cap) := by rw [hc _ _ (by omega)]; first | (simp [go_sem]; done) | (simp [go_sem]; rfl)
    clear hc hf
    have hB := hA.trans (hb.mono (by omega))
    by_cases hkl : k < l.length
    · obtain ⟨c, hcl⟩ := some_at hkl
      obtain ⟨bb, oo, rfl, hs1, hb4, hok, y0, y1, y2⟩ := fld_get (hl.old hB) hcl
      have hk2 : (k : Int) < (l.length : Int) := by omega
      have hlim : k ≤ 100000 := by omega
      have hp2 := hp.out
      rw [drop_at2 hcl, fldOf_cons] at hp2
      by_cases hcn : c.1 = name
      · rw [if_pos hcn] at hp2
        have HP := Lib.hid hp2
        have ht : (c.1.toList == name.toList) = true := by rw [str_eq]; simpa using hcn
        clear hp2 hcn
        go_wp2_with fail
        go_ret2
        exact ⟨by rw [HP.out]; rfl, hB⟩
      · rw [if_neg hcn] at hp2
        have HP := Lib.hid hp2
        have ht : (c.1.toList == name.toList) = false := by rw [str_eq]; simpa using hcn
        clear hp2 hcn
        go_wp2_with fail
        go_roundw
        case measure => simp [intOf]; omega
        case rel => exact ⟨k + 1, by omega, by go_num, HP, hb⟩
    · obtain rfl : k = l.length := by omega
      have hp2 := hp.out
      rw [List.drop_length] at hp2
      have HP := Lib.hid hp2
      clear hp2
      go_wp2_with fail
      go_ret2
      exact ⟨by rw [HP.out]; rfl, hB⟩
end Go.Proofs.Ytmgckaokjhfkaaa
