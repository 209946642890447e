/- Soft of the reference is softL. -/
import Derived.Test.YtjcglbopggcmdaaSoft
namespace Go.Proofs.Ytjcglbopggcmdaa
open Go.RowKit Lift
set_option linter.unusedSimpArgs false
set_option linter.unusedVariables false

/-- Where a line is cut, after k - 1 looks. -/
def cutK (q : Nat) (l : List UInt8) : Nat → Nat
  | 0 => q
  | k + 1 => if l.getD (q - (k + 1)) 0 = 61 then q - (k + 1) else cutK q l k
theorem cutK_two {q : Nat} {l : List UInt8} (hq : 3 ≤ q) (h : NoTwo l) : cutK q l 2 = cutAt (q + 1) l := by
  have ha := h (q - 2)
  rw [show q - 2 + 1 = q - 1 by omega] at ha
  unfold cutK cutK cutK cutAt
  rw [show q + 1 - 2 = q - 1 by omega, show q + 1 - 3 = q - 2 by omega, show q + 1 - 1 = q by omega, show q - (1 + 1) = q - 2 by omega, show q - (0 + 1) = q - 1 by omega]
  by_cases h2 : l.getD (q - 2) 0 = 61
  · rw [if_pos h2, if_neg (ha h2), if_pos h2]
  · rw [if_neg h2, if_neg h2]
theorem byte_ne {c : UInt8} (h : c ≠ 61) : ((c.toNat : Int) == 61) = false := by
  have : c.toNat ≠ 61 := fun h2 => h (UInt8.toNat_inj.1 h2)
  simp; omega

def QIn (q : Nat) (s0 : ByteArray) (v0 v8 : Value) : Prop :=
  ∃ (s t : ByteArray), s.size ≤ s0.size ∧ v0 = .string s ∧ v8 = .string t ∧ NoTwo s.data.toList ∧ t.data.toList ++ softL (q + 1) s.data.toList = softL (q + 1) s0.data.toList ∧ t.size + 4 * s.size ≤ 4 * s0.size

set_option maxHeartbeats 1000000 in
set_option maxRecDepth 100000 in
theorem soft_ref (s0 : ByteArray) (q : Nat) (h4 : 3 ≤ q) (hm : q ≤ 199) (w : World) (hs : s0.size ≤ 1000000) (d : ByteArray) (hdec : ∀ w, Calls Try.prog 11 #[.string s0] w (DecPost (d.data.toList, 0) w)) (henc : ∀ w, Calls Try.prog 7 #[.string d] w (StrPost s0.data.toList w)) (h2 : NoTwo s0.data.toList) :
    Calls Try.prog 13 #[.string s0, .int .i64 ((q:Int) + 1)] w (DecPost (softL (q + 1) s0.data.toList, 0) w) := by
  have HD := Lib.hid hdec; have HE := Lib.hid henc; have H2 := Lib.hid h2
  clear hdec henc h2
  go_enter Try.func13, Try.ntmps13
  go_wp2_with fail
  refine (HD.out _).mono ?_
  rintro e w1 ⟨rfl, hb1⟩
  go_wp2_with fail
  refine (HE.out _).mono ?_
  rintro e w2 ⟨rfl, hb2⟩
  go_wp2_with fail
  have hb := chain hb1 hb2
  clear hb1 hb2
  go_loop [0, 8] (fun v0 v8 => QIn q s0 v0 v8) (fun v0 _ => strLen v0)
  case atStart => exact ⟨s0, ⟨#[]⟩, by omega, rfl, rfl, H2.out, rfl, by show 0 + 4 * s0.size ≤ _; omega⟩
  case round =>
    obtain ⟨s, t, hk, rfl, rfl, hn2, hsoft, hal⟩ := hrel
    by_cases hks : q + 1 < s.size
    · have hlen : s.data.toList.length = s.size := by simp
      rw [softL_long (by rw [hlen]; exact hks) (by omega)] at hsoft
      have hct := cutK_two h4 hn2
      have hge := cutAt_ge (q + 1) s.data.toList
      have hdr := extract_rest s (cutAt (q + 1) s.data.toList)
      have htk := ext0_list s (cutAt (q + 1) s.data.toList)
      have hn3 := hn2.drop (cutAt (q + 1) s.data.toList)
      rw [← hdr] at hn3 hsoft
      rw [← htk] at hsoft
      have hz1 : (s.extract (cutAt (q + 1) s.data.toList) s.size).size = s.size - cutAt (q + 1) s.data.toList := by simp
      have hz2 := ext0_size s (cutAt (q + 1) s.data.toList) (by omega)
      obtain ⟨c, hc⟩ : ∃ c, cutAt (q + 1) s.data.toList = c := ⟨_, rfl⟩
      rw [hc] at hge hz1 hz2 hn3 hsoft hct
      have HSOFT := Lib.hid hsoft; have HN := Lib.hid hn3; have HZ1 := Lib.hid hz1; have HZ2 := Lib.hid hz2; have HCT := Lib.hid hct; have HN2 := Lib.hid hn2
      clear hsoft hn3 hz1 hz2 hct hlen hdr htk hc hn2
      go_wp2_with fail
      go_loop [9, 10] (fun v9 v10 => ∃ k : Nat, k ≤ 2 ∧ v10 = .int .i64 ((k : Int) + 1) ∧ v9 = .int .i64 (cutK q s.data.toList k : Nat)) (fun _ v10 => 4 - (intOf v10).toNat)
      case atStart => exact ⟨0, by omega, rfl, rfl⟩
      case round =>
        obtain ⟨k, hk2, rfl, rfl⟩ := hrel
        obtain rfl | rfl | rfl : k = 0 ∨ k = 1 ∨ k = 2 := by omega
        · have hg := getD_at s (q - 1) (by omega)
          have e1 : (1 : Int) ≤ (q : Int) := by omega
          by_cases h61 : s[q - 1] = 61
          · have hr : cutK q s.data.toList 1 = q - 1 := if_pos (by rw [hg]; exact h61)
            have HR := Lib.hid hr
            clear hr hg
            go_wp2_with fail
            go_round
            case measure => simp [intOf]
            case rel => exact ⟨1, by omega, rfl, by rw [HR.out]; congr 1; omega⟩
          · have hr : cutK q s.data.toList 1 = cutK q s.data.toList 0 := if_neg (by rw [hg]; exact h61)
            have HR := Lib.hid hr
            have hb := byte_ne h61
            clear hr hg h61
            go_wp2_with fail
            go_round
            case measure => simp [intOf]
            case rel => exact ⟨1, by omega, rfl, by rw [HR.out]⟩
        · have hg := getD_at s (q - 2) (by omega)
          have e1 : (2 : Int) ≤ (q : Int) := by omega
          by_cases h61 : s[q - 2] = 61
          · have hr : cutK q s.data.toList 2 = q - 2 := if_pos (by rw [hg]; exact h61)
            have HR := Lib.hid hr
            clear hr hg
            go_wp2_with fail
            go_round
            case measure => simp [intOf]
            case rel => exact ⟨2, by omega, rfl, by rw [HR.out]; congr 1; omega⟩
          · have hr : cutK q s.data.toList 2 = cutK q s.data.toList 1 := if_neg (by rw [hg]; exact h61)
            have HR := Lib.hid hr
            have hb := byte_ne h61
            clear hr hg h61
            go_wp2_with fail
            go_round
            case measure => simp [intOf]
            case rel => exact ⟨2, by omega, rfl, by rw [HR.out]⟩
        · rw [HCT.out]
          go_wp2_with fail
          go_round
          case measure => show (s.extract c s.size).size < s.size; rw [HZ1.out]; omega
          case rel =>
            refine ⟨_, _, by rw [HZ1.out]; omega, rfl, rfl, HN.out, by rw [← HSOFT.out]; simp, ?_⟩
            rw [HZ1.out, ByteArray.size_append, ByteArray.size_append, HZ2.out, show (⟨#[61, 13, 10]⟩ : ByteArray).size = 3 from rfl]
            omega
    · have hlen : s.data.toList.length = s.size := by simp
      rw [softL_short (by rw [hlen]; omega)] at hsoft
      have HSOFT := Lib.hid hsoft
      clear hsoft
      have hd : decide ((q:Int) + 1 < (s.size : Int)) = false := by simp; omega
      go_wp2_with fail
      go_ret2
      exact ⟨ret_dpair (by rw [← HSOFT.out]; simp) rfl, hb⟩
end Go.Proofs.Ytjcglbopggcmdaa
