/- Capitals; whether a text is plain; which parameters say how a value is written. -/
import Derived.Test.YtcfbmfcobpfcjaaDoorVcWords
namespace Go.Proofs.YtcfbmfcobpfcjaaDoor
open Go.RowKit Lift
set_option linter.unusedSimpArgs false
set_option linter.unusedVariables false

def plB (n : Nat) : Bool := decide (32 ≤ n ∧ n ≤ 126)
def isPlain (s : ByteArray) : Bool := s.data.toList.all (fun c => plB c.toNat)
def capU (c : UInt8) : UInt8 := if 97 ≤ c.toNat ∧ c.toNat ≤ 122 then c - 32 else c
def capS (s : ByteArray) : ByteArray := ⟨(s.data.toList.map capU).toArray⟩
set_option maxHeartbeats 1000000 in
set_option maxRecDepth 100000 in
theorem notPlain_any (n : Nat) (hn : n < 256) (w : World) : Calls Tryd.prog 62 #[.int .u8 n] w (BoolPost (!plB n) w) := by
  go_enter Tryd.func62, Tryd.ntmps62
  go_wp2_with fail
  all_goals
    go_ret
    exact ⟨ret_bool (by rw [Bool.eq_iff_iff]; simp only [plB, decide_eq_true_eq, Bool.and_eq_true, Bool.or_eq_true, Bool.not_eq_true', bne_iff_ne, Bool.false_eq_true, decide_eq_false_iff_not, ne_eq, Bool.not_eq_true, beq_iff_eq, iff_true, true_iff, false_iff] at *; omega), rfl⟩
set_option maxHeartbeats 1000000 in
set_option maxRecDepth 100000 in
theorem plain_any (s : ByteArray) (hs : s.size ≤ 100000) (w : World) : Calls Tryd.prog 37 #[.string s] w (BelowPost (.bool (isPlain s)) w) := by
  have HA := Lib.hid (any_not (p := fun c => plB c.toNat) s.data.toList)
  obtain ⟨W, cap, hcv, hby, hbw, hbz⟩ := conv_bytes (P := Tryd.prog) w 9 48 5 s (u := .string) Tryd.underlying9 Tryd.underlying48 Tryd.underlying5
  have HB := Lib.hid (contains_bytes w.heap.size s.size cap s.data.toList (by simp) 62 (fun c => !plB c.toNat) W hby (by simp; omega) (fun args w => by kernel_rfl) (fun c w => notPlain_any _ c.toNat_lt w))
  generalize (s.data.toList.any fun c => !plB c.toNat) = bb at HA HB
  clear hby
  go_enter Tryd.func37, Tryd.ntmps37
  go_wp2_with fail
  refine HB.out.mono ?_
  rintro e w3 ⟨rfl, rfl⟩
  go_wp2_with fail
  go_ret
  exact ⟨by unfold isPlain; rw [← HA.out]; rfl, hbw⟩
set_option maxHeartbeats 1000000 in
set_option maxRecDepth 100000 in
theorem plain_ref (s : ByteArray) (hs : s.size ≤ 100000) (w : World) : Calls Tryd.prog 25 #[.string s] w (BelowPost (.bool (isPlain s)) w) := by
  go_enter Tryd.func25, Tryd.ntmps25
  go_wp2_with fail
  go_loopw [3] (fun v wr => ∃ k : Nat, k ≤ s.size ∧ v = .int .i64 k ∧ Hid (isPlain s = (s.data.toList.drop k).all (fun c => plB c.toNat)) ∧ Below w.heap.size w wr) (fun v _ => s.size - (intOf v).toNat)
  case atStart => exact ⟨0, by omega, rfl, Lib.hid rfl, Below.refl _ _⟩
  case round =>
    obtain ⟨k, hk, rfl, hA, hb⟩ := hrel
    have hsl : s.data.toList.length = s.size := by simp
    by_cases hkl : k < s.size
    · have hkl2 : (k : Int) < (s.size : Int) := by omega
      obtain ⟨x, hx⟩ : ∃ x, s[k]'hkl = x := ⟨_, rfl⟩
      have hxn := x.toNat_lt
      have hxl : s.data.toList[k]? = some x := by rw [List.getElem?_eq_getElem (by omega), ← hx]; rfl
      have hA2 := hA.out
      rw [all_at2 hxl] at hA2
      cases hp : plB x.toNat with
      | true =>
        rw [hp, Bool.true_and] at hA2
        have HA2 := Lib.hid hA2
        have hp2 : 32 ≤ x.toNat ∧ x.toNat ≤ 126 := by simpa [plB] using hp
        clear hA2 hp hxl
        go_wp2_with fail
        go_roundw
        case measure => simp [intOf]; omega
        case rel => exact ⟨k + 1, by omega, by go_num, HA2, hb⟩
      | false =>
        rw [hp, Bool.false_and] at hA2
        have HA2 := Lib.hid hA2
        have hp2 : ¬ (32 ≤ x.toNat ∧ x.toNat ≤ 126) := by simpa [plB] using hp
        clear hA2 hp hxl
        by_cases h32 : x.toNat < 32
        · go_wp2_with fail
          go_ret
          exact ⟨by rw [HA2.out]; rfl, hb⟩
        · have h126 : 126 < x.toNat := by omega
          go_wp2_with fail
          go_ret
          exact ⟨by rw [HA2.out]; rfl, hb⟩
    · obtain rfl : k = s.size := by omega
      have hA2 := hA.out
      rw [List.drop_of_length_le (by omega), List.all_nil] at hA2
      have HA2 := Lib.hid hA2
      clear hA2
      go_wp2_with fail
      go_ret
      exact ⟨by rw [HA2.out]; rfl, hb⟩
/-- Behind so many letters. -/
def capMix (l : List UInt8) (k : Nat) : List UInt8 := (l.take k).map capU ++ l.drop k
theorem capMix_len (l : List UInt8) (k : Nat) : (capMix l k).length = l.length := by simp [capMix]; omega
theorem capMix_at {l : List UInt8} {k : Nat} {x : UInt8} (h : l[k]? = some x) : (capMix l k).getD k 0 = x := by
  have hk := (List.getElem?_eq_some_iff.1 h).1
  unfold capMix
  rw [List.getD_eq_getElem?_getD, List.getElem?_append_right (by simp; omega)]
  simp [Nat.min_eq_left (Nat.le_of_lt hk), h]
theorem capMix_set {l : List UInt8} {k : Nat} {x : UInt8} (h : l[k]? = some x) : (capMix l k).set k (capU x) = capMix l (k + 1) := by
  have hk := (List.getElem?_eq_some_iff.1 h).1
  unfold capMix
  rw [List.set_append_right _ _ (by simp; omega), take_at2 h, drop_at2 h]
  simp [Nat.min_eq_left (Nat.le_of_lt hk)]
theorem capMix_keep {l : List UInt8} {k : Nat} {x : UInt8} (h : l[k]? = some x) (hx : capU x = x) : capMix l (k + 1) = capMix l k := by
  unfold capMix
  rw [take_at2 h, drop_at2 h]
  simp [hx]
theorem cap_num {x : UInt8} (h : 97 ≤ x.toNat ∧ x.toNat ≤ 122) : (capU x).toNat = x.toNat - 32 := by
  unfold capU
  rw [if_pos h, UInt8.toNat_sub_of_le _ _ (by rw [UInt8.le_iff_toNat_le]; show 32 ≤ _; omega)]; rfl
set_option maxHeartbeats 1000000 in
set_option maxRecDepth 100000 in
theorem capitals_any (s : ByteArray) (hs : s.size ≤ maxTx) (w : World) : Calls Tryd.prog 60 #[.string s] w (BelowPost (.string (capS s)) w) := by
  unfold maxTx at hs
  obtain ⟨W, cap, hcv, hby, hbw, hbz⟩ := conv_bytes (P := Tryd.prog) w 9 48 5 s (u := .string) Tryd.underlying9 Tryd.underlying48 Tryd.underlying5
  have hsl : s.data.toList.length = s.size := by simp
  obtain ⟨l, hl⟩ : ∃ l, s.data.toList = l := ⟨_, rfl⟩
  have HCS := Lib.hid (show capS s = ⟨(l.map capU).toArray⟩ by unfold capS; rw [hl])
  rw [hl] at hby hsl
  clear hl
  have HBY := Lib.hid hby
  clear hby
  go_enter Tryd.func60, Tryd.ntmps60
  go_wp2_with fail
  go_loopw [4, 5, 10] (fun v4 v5 v10 wr => ∃ k : Nat, k ≤ l.length ∧ v10 = .int .i64 k ∧ Hid (Bytes wr w.heap.size (capMix l k)) ∧ Below w.heap.size w wr ∧ w.heap.size < wr.heap.size) (fun _ _ v10 _ => l.length - (intOf v10).toNat)
  case atStart => exact ⟨0, by omega, rfl, by simpa [capMix] using HBY, hbw, by omega⟩
  case round =>
    obtain ⟨k, hk, rfl, hB, hb, hz⟩ := hrel
    by_cases hkl : k < l.length
    · have hkl2 : (k : Int) < (s.size : Int) := by omega
      obtain ⟨x, hx⟩ := some_at hkl
      have hxn := x.toNat_lt
      have x0 := hB.out.cell k (by rw [capMix_len]; exact hkl)
      rw [capMix_at hx] at x0
      have xf := hB.out.free k (by rw [capMix_len]; exact hkl)
      by_cases h97 : 97 ≤ x.toNat ∧ x.toNat ≤ 122
      · obtain ⟨h1, h2⟩ := h97
        have hcx := cap_num ⟨h1, h2⟩
        have HS := Lib.hid (fun n hn => capMix_set hx ▸ hB.out.set k (capU x) n hn)
        clear hx
        have hbS := fun n : Int => hb.setCell (p := ⟨w.heap.size, k, none⟩) (Nat.le_refl _) (.int .u8 n)
        go_wp2_with fail
        go_roundw
        case measure => simp [intOf]; omega
        case rel => exact ⟨k + 1, by omega, by go_num, Lib.hid (HS.out _ (by omega)), hbS _, by simpa using hz⟩
      · have HK := Lib.hid (capMix_keep hx (show capU x = x by unfold capU; rw [if_neg h97]))
        clear hx
        by_cases h1 : 97 ≤ x.toNat
        · have h2 : ¬ x.toNat ≤ 122 := fun h => h97 ⟨h1, h⟩
          clear h97
          go_wp2_with fail
          go_roundw
          case measure => simp [intOf]; omega
          case rel => exact ⟨k + 1, by omega, by go_num, by rw [HK.out]; exact hB, hb, hz⟩
        · clear h97
          go_wp2_with fail
          go_roundw
          case measure => simp [intOf]; omega
          case rel => exact ⟨k + 1, by omega, by go_num, by rw [HK.out]; exact hB, hb, hz⟩
    · obtain rfl : k = l.length := by omega
      have hm : capMix l l.length = l.map capU := by simp [capMix]
      rw [hm] at hB
      have hst := Bytes.string (P := Tryd.prog) hB.out 48 9 5 cap s.size (by simp; omega) Tryd.underlying48 Tryd.underlying5 Tryd.underlying9
      clear hm
      go_wp2_with fail
      go_ret
      exact ⟨by rw [HCS.out]; rfl, hb⟩
end Go.Proofs.YtcfbmfcobpfcjaaDoor
