/- Names and values of a property: the program's and the document's. -/
import Derived.Test.YtcfbmfcobpfcjaaDoorRuneAt
import Derived.Test.YtcfbmfcobpfcjaaDoorPrDefs
import Derived.Test.YtcfbmfcobpfcjaaDoorRd2
namespace Go.Proofs.YtcfbmfcobpfcjaaDoor
open Go.RowKit Lift
set_option linter.unusedSimpArgs false
set_option linter.unusedVariables false

def capB (n : Nat) : Bool := decide (65 ≤ n ∧ n ≤ 90)
def nameB (n : Nat) : Bool := decide ((65 ≤ n ∧ n ≤ 90) ∨ (48 ≤ n ∧ n ≤ 57) ∨ n = 45)
def valB (n : Nat) : Bool := decide (33 ≤ n ∧ n ≤ 126 ∧ n ≠ 58 ∧ n ≠ 59 ∧ n ≠ 61)
def oddB (n : Nat) : Bool := decide (n = 0 ∨ n = 10 ∨ n = 13)
def fits (s : ByteArray) : Bool := decide (0 < s.size ∧ s.size ≤ 32)
def isName (s : ByteArray) : Bool := fits s && capB (s.data.toList.getD 0 0).toNat && s.data.toList.all (fun c => nameB c.toNat)
def isValue (s : ByteArray) : Bool := fits s && s.data.toList.all (fun c => valB c.toNat)
def isPar (c : Par) : Bool := (decide (c.1.size = 0) || isName c.1) && isValue c.2

theorem empty_iff (s : ByteArray) : s.toList.isEmpty = decide (s.size = 0) := by
  rw [Lib.toList_data]
  cases h : s.data.toList with
  | nil => have := Lib.size_eq s; rw [h, List.length_nil] at this; simp [this]
  | cons a t => have := Lib.size_eq s; rw [h, List.length_cons] at this; simp [this]

set_option maxHeartbeats 1000000 in
set_option maxRecDepth 100000 in
theorem capital_any (n : Nat) (hn : n < 256) (w : World) : Calls Tryd.prog 80 #[.int .u8 n] w (BoolPost (capB n) w) := by
  go_enter Tryd.func80, Tryd.ntmps80
  go_wp2
  all_goals
    go_ret
    exact ⟨ret_bool (by (rw [Bool.eq_iff_iff]; simp only [capB, nameB, valB, oddB, decide_eq_true_eq, Bool.and_eq_true, Bool.or_eq_true, Bool.not_eq_true', bne_iff_ne, Bool.false_eq_true, decide_eq_false_iff_not, ne_eq, Bool.not_eq_true, beq_iff_eq, iff_true, true_iff, false_iff] at *; omega)), rfl⟩
set_option maxHeartbeats 1000000 in
set_option maxRecDepth 100000 in
theorem letter_any (n : Nat) (hn : n < 256) (w : World) : Calls Tryd.prog 93 #[.int .u8 n] w (BoolPost (capB n) w) := by
  go_enter Tryd.func93, Tryd.ntmps93
  go_wp2
  all_goals
    go_ret
    exact ⟨ret_bool (by (rw [Bool.eq_iff_iff]; simp only [capB, nameB, valB, oddB, decide_eq_true_eq, Bool.and_eq_true, Bool.or_eq_true, Bool.not_eq_true', bne_iff_ne, Bool.false_eq_true, decide_eq_false_iff_not, ne_eq, Bool.not_eq_true, beq_iff_eq, iff_true, true_iff, false_iff] at *; omega)), rfl⟩
set_option maxHeartbeats 1000000 in
set_option maxRecDepth 100000 in
theorem odd_any (n : Nat) (hn : n < 256) (w : World) : Calls Tryd.prog 77 #[.int .u8 n] w (BoolPost (oddB n) w) := by
  go_enter Tryd.func77, Tryd.ntmps77
  go_wp2
  all_goals
    go_ret
    exact ⟨ret_bool (by (rw [Bool.eq_iff_iff]; simp only [capB, nameB, valB, oddB, decide_eq_true_eq, Bool.and_eq_true, Bool.or_eq_true, Bool.not_eq_true', bne_iff_ne, Bool.false_eq_true, decide_eq_false_iff_not, ne_eq, Bool.not_eq_true, beq_iff_eq, iff_true, true_iff, false_iff] at *; omega)), rfl⟩
set_option maxHeartbeats 1000000 in
set_option maxRecDepth 100000 in
theorem notName_any (n : Nat) (hn : n < 256) (w : World) : Calls Tryd.prog 81 #[.int .u8 n] w (BoolPost (!nameB n) w) := by
  go_enter Tryd.func81, Tryd.ntmps81
  go_wp2_with (go_at_call 80; refine (capital_any _ hn _).mono ?_; rintro e w' ⟨rfl, rfl⟩)
  all_goals
    go_ret
    exact ⟨ret_bool (by (rw [Bool.eq_iff_iff]; simp only [capB, nameB, valB, oddB, decide_eq_true_eq, Bool.and_eq_true, Bool.or_eq_true, Bool.not_eq_true', bne_iff_ne, Bool.false_eq_true, decide_eq_false_iff_not, ne_eq, Bool.not_eq_true, beq_iff_eq, iff_true, true_iff, false_iff] at *; omega)), rfl⟩
theorem semi_contains (n : Nat) (hn : n < 256) : decide (0 ≤ Lib.indexByte [59, 58, 61] n.toUInt8) = decide (n = 59 ∨ n = 58 ∨ n = 61) := by
  rw [← Lib.contains_iff_indexByte, Bool.eq_iff_iff, decide_eq_true_eq]
  have h : ∀ k, k < 256 → (n.toUInt8 = (k : Nat).toUInt8 ↔ n = k) := fun k hk => by
    rw [← UInt8.toNat_inj]; simp; omega
  have h1 := h 59 (by omega); have h2 := h 58 (by omega); have h3 := h 61 (by omega)
  simp only [List.contains_cons, List.contains_nil, Bool.or_eq_true, beq_iff_eq, Bool.or_false]
  exact or_congr h1 (or_congr h2 h3)
set_option maxHeartbeats 1000000 in
set_option maxRecDepth 100000 in
theorem notVal_any (n : Nat) (hn : n < 256) (w : World) : Calls Tryd.prog 95 #[.int .u8 n] w (BoolPost (!valB n) w) := by
  have hs := semi_contains n hn
  generalize hq : Lib.indexByte [59, 58, 61] n.toUInt8 = q at hs
  have HQ := Lib.hid hq
  clear hq
  go_enter Tryd.func95, Tryd.ntmps95
  go_wp2_with (go_at_call 87; refine (Tryd.strings_IndexByte _ _ _).mono ?_; rintro e w' ⟨rfl, rfl⟩; rw [show Lib.indexByte (ByteArray.mk #[59, 58, 61]).data.toList ((n : Int)).toNat.toUInt8 = q from HQ.out])
  all_goals
    go_ret
    exact ⟨ret_bool (by (rw [Bool.eq_iff_iff]; simp only [capB, nameB, valB, oddB, decide_eq_true_eq, Bool.and_eq_true, Bool.or_eq_true, Bool.not_eq_true', bne_iff_ne, Bool.false_eq_true, decide_eq_false_iff_not, ne_eq, Bool.not_eq_true, beq_iff_eq, iff_true, true_iff, false_iff] at *; omega)), rfl⟩

theorem ge_idx {α : Type} (p : α → Bool) (l : List α) (k : Nat) : (0 ≤ idx p k l) = (l.any p = true) := by
  rw [← idx_any p l k, decide_eq_true_eq]

set_option maxHeartbeats 1000000 in
set_option maxRecDepth 100000 in
theorem index_bytes (g0 n cap : Nat) (l : List UInt8) (hn : n = l.length) (g : FuncId) (p : UInt8 → Bool) (w : World) (hB : Bytes w g0 l) (hlen : l.length ≤ 100000) (hen : ∀ (args : Array Value) (w : World), (callFunc g args).run Tryd.prog w = .ok (.enter g args) w) (hp : ∀ (c : UInt8) (w : World), Calls Tryd.prog g #[.int .u8 c.toNat] w (BoolPost (p c) w)) :
    Calls Tryd.prog 85 #[.slice (some ⟨g0, 0, none⟩) n cap, .func (.func g) #[] #[]] w (IntPost .i64 (idx p 0 l) w) := by
  have HP := Lib.hid hp
  clear hp
  subst hn
  go_enter Tryd.func85, Tryd.ntmps85
  go_wp2_with fail
  go_loopw [8] (fun v8 wr => ∃ k : Nat, k ≤ l.length ∧ v8 = .int .i64 k ∧ Hid (idx p 0 l = idx p k (l.drop k)) ∧ wr = w) (fun v8 _ => l.length - (intOf v8).toNat)
  case atStart => exact ⟨0, by omega, rfl, Lib.hid rfl, rfl⟩
  case round =>
    obtain ⟨k, hk, rfl, hix, rfl⟩ := hrel
    by_cases hkl : k < l.length
    · obtain ⟨c, hcl⟩ := some_at hkl
      have x0 : wr.cell? ⟨g0, k, none⟩ = some (.int .u8 c.toNat) := by
        have := hB.cell k hkl
        rw [List.getD_eq_getElem?_getD, hcl] at this
        exact this
      have hkl2 : (k : Int) < (l.length : Int) := by omega
      have hlim : k ≤ 100000 := by omega
      have hi2 := hix.out
      rw [drop_at2 hcl, idx] at hi2
      have hpc := HP.out c wr
      cases hpq : p c with
      | true =>
        rw [hpq] at hi2 hpc
        have HI := Lib.hid hi2
        have HC := Lib.hid hpc
        clear hi2 hpc hpq
        go_wp2_with fail
        refine HC.out.mono ?_
        rintro e w3 ⟨rfl, rfl⟩
        go_wp2_with fail
        go_ret
        exact ⟨by rw [HI.out]; rfl, rfl⟩
      | false =>
        rw [hpq] at hi2 hpc
        have HI := Lib.hid (show idx p 0 l = idx p (k + 1) (l.drop (k + 1)) from hi2)
        have HC := Lib.hid hpc
        clear hi2 hpc hpq
        go_wp2_with fail
        refine HC.out.mono ?_
        rintro e w3 ⟨rfl, rfl⟩
        go_wp2_with fail
        go_roundw
        case measure => simp [intOf]; omega
        case rel => exact ⟨k + 1, by omega, by go_num, HI, by first | rfl | trivial⟩
    · obtain rfl : k = l.length := by omega
      have hi2 := hix.out
      rw [List.drop_length, idx] at hi2
      have HI := Lib.hid hi2
      clear hi2
      go_wp2_with fail
      go_ret
      exact ⟨by rw [HI.out]; rfl, rfl⟩

set_option maxHeartbeats 1000000 in
set_option maxRecDepth 100000 in
theorem contains_bytes (g0 n cap : Nat) (l : List UInt8) (hn : n = l.length) (g : FuncId) (p : UInt8 → Bool) (w : World) (hB : Bytes w g0 l) (hlen : l.length ≤ 100000) (hen : ∀ (args : Array Value) (w : World), (callFunc g args).run Tryd.prog w = .ok (.enter g args) w) (hp : ∀ (c : UInt8) (w : World), Calls Tryd.prog g #[.int .u8 c.toNat] w (BoolPost (p c) w)) :
    Calls Tryd.prog 61 #[.slice (some ⟨g0, 0, none⟩) n cap, .func (.func g) #[] #[]] w (BoolPost (l.any p) w) := by
  have HC := Lib.hid (index_bytes g0 n cap l hn g p w hB hlen hen hp)
  have HA := Lib.hid (idx_any p l 0)
  clear hB hen hp hn hlen
  go_enter Tryd.func61, Tryd.ntmps61
  go_wp2_with fail
  refine HC.out.mono ?_
  intro e w' hew
  obtain ⟨he, hw⟩ := hew
  subst he hw
  go_wp2_with fail
  go_ret
  exact ⟨ret_bool HA.out, rfl⟩
end Go.Proofs.YtcfbmfcobpfcjaaDoor
