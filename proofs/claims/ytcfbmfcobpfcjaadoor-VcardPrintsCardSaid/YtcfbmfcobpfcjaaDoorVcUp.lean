/- The document's capitals; parameters that say how a value is written, or may not be a card's. -/
import Derived.Test.YtcfbmfcobpfcjaaDoorVcCaps
import Derived.Deep.Cut
import Derived.Deep.RegionHeld3
namespace Go.Proofs.YtcfbmfcobpfcjaaDoor
open Go.RowKit Lift
set_option linter.unusedSimpArgs false
set_option linter.unusedVariables false
set_option maxHeartbeats 1000000 in
set_option maxRecDepth 100000 in
theorem upper_ref (s : ByteArray) (hs : s.size ≤ maxTx) (w : World) : Calls Tryd.prog 47 #[.string s] w (BelowPost (.string (capS s)) w) := by
  unfold maxTx at hs
  obtain ⟨W, cap, hcv, hby, hbw, hbz⟩ := conv_bytes (P := Tryd.prog) w 9 48 5 s (u := .string) Tryd.underlying9 Tryd.underlying48 Tryd.underlying5
  have hsl : s.data.toList.length = s.size := by simp
  obtain ⟨l, hl⟩ : ∃ l, s.data.toList = l := ⟨_, rfl⟩
  have HCS := Lib.hid (show capS s = ⟨(l.map capU).toArray⟩ by unfold capS; rw [hl])
  rw [hl] at hby hsl
  clear hl
  have HBY := Lib.hid hby
  clear hby
  go_enter Tryd.func47, Tryd.ntmps47
  go_wp2_with fail
  go_loopw [4] (fun v4 wr => ∃ k : Nat, k ≤ l.length ∧ v4 = .int .i64 k ∧ Hid (Bytes wr w.heap.size (capMix l k)) ∧ Below w.heap.size w wr ∧ w.heap.size < wr.heap.size) (fun v4 _ => l.length - (intOf v4).toNat)
  case atStart => exact ⟨0, by omega, rfl, by simpa [capMix] using HBY, hbw, by omega⟩
  case round =>
    obtain ⟨k, hk, rfl, hB, hb, hz⟩ := hrel
    by_cases hkl : k < l.length
    · have hkl2 : (k : Int) < (s.size : Int) := by omega
      obtain ⟨x, hx⟩ := some_at hkl
      have hxn := x.toNat_lt
      have x0 := hB.out.cell k (by rw [capMix_len]; exact hkl)
      rw [capMix_at hx] at x0
      have xf := hB.out.free k (by rw [capMix_len]; exact hkl)
      by_cases h97 : 97 ≤ x.toNat ∧ x.toNat ≤ 122
      · obtain ⟨h1, h2⟩ := h97
        have hcx := cap_num ⟨h1, h2⟩
        have HS := Lib.hid (fun n hn => capMix_set hx ▸ hB.out.set k (capU x) n hn)
        clear hx
        have hbS := fun n : Int => hb.setCell (p := ⟨w.heap.size, k, none⟩) (Nat.le_refl _) (.int .u8 n)
        go_wp2_with fail
        go_roundw
        case measure => simp [intOf]; omega
        case rel => exact ⟨k + 1, by omega, by go_num, Lib.hid (HS.out _ (by omega)), hbS _, by simpa using hz⟩
      · have HK := Lib.hid (capMix_keep hx (show capU x = x by unfold capU; rw [if_neg h97]))
        clear hx
        by_cases h1 : 97 ≤ x.toNat
        · have h2 : ¬ x.toNat ≤ 122 := fun h => h97 ⟨h1, h⟩
          clear h97
          go_wp2_with fail
          go_roundw
          case measure => simp [intOf]; omega
          case rel => exact ⟨k + 1, by omega, by go_num, by rw [HK.out]; exact hB, hb, hz⟩
        · clear h97
          go_wp2_with fail
          go_roundw
          case measure => simp [intOf]; omega
          case rel => exact ⟨k + 1, by omega, by go_num, by rw [HK.out]; exact hB, hb, hz⟩
    · obtain rfl : k = l.length := by omega
      have hm : capMix l l.length = l.map capU := by simp [capMix]
      rw [hm] at hB
      have hst := Bytes.string (P := Tryd.prog) hB.out 48 9 5 cap s.size (by simp; omega) Tryd.underlying48 Tryd.underlying5 Tryd.underlying9
      clear hm
      go_wp2_with fail
      go_ret
      exact ⟨by rw [HCS.out]; rfl, hb⟩

/-! ### Parameters -/
def saysP (x : ByteArray × ByteArray) : Bool := decide (x.1 = kEnc) || decide (x.1 = kChr) || (decide (x.1.size = 0) && isHow x.2)
def oddP (x : ByteArray × ByteArray) : Bool := saysP x || (decide (x.1.size = 0) && !decide (capS x.2 = x.2))
theorem empty_list (s : ByteArray) : decide (s.size = 0) = decide (s.toList = []) := by
  rw [decide_eq_decide, Lib.toList_data, ← List.length_eq_zero_iff, ← Lib.size_eq]
set_option maxHeartbeats 1000000 in
set_option maxRecDepth 100000 in
theorem says_any2 (x : ByteArray × ByteArray) (w : World) : Calls Tryd.prog 59 #[.agg #[.string x.1, .string x.2]] w (BelowPost (.bool (saysP x)) w) := by
  obtain ⟨n, v⟩ := x
  have HW := Lib.hid (show saysP (n, v) = (decide (n.toList = [69, 78, 67, 79, 68, 73, 78, 71]) || decide (n.toList = [67, 72, 65, 82, 83, 69, 84]) || (decide (n.toList = []) && isHow v)) by
    unfold saysP; rw [show decide (n = kEnc) = decide (n.toList = [69, 78, 67, 79, 68, 73, 78, 71]) from eq_list n _, show decide (n = kChr) = decide (n.toList = [67, 72, 65, 82, 83, 69, 84]) from eq_list n _, empty_list])
  have HH := Lib.hid (written_any v)
  obtain ⟨b, hb⟩ : ∃ b, isHow v = b := ⟨_, rfl⟩
  rw [hb] at HH HW
  clear hb
  have hb0 : Below w.heap.size w (w.alloc (.cells #[.string n, .string v] 58)) := (Below.refl _ w).alloc (Nat.le_refl _) _
  simp only
  go_enter Tryd.func59, Tryd.ntmps59
  go_wp2_with (go_at_call 84; refine (HH.out _).mono ?_; rintro e w' ⟨rfl, rfl⟩)
  all_goals
    go_ret
    exact ⟨ret_bool (by rw [HW.out, Bool.eq_iff_iff]; simp [*]), hb0⟩
set_option maxHeartbeats 4000000 in
set_option maxRecDepth 100000 in
theorem odd_any2 (x : ByteArray × ByteArray) (hx : x.2.size ≤ maxTx) (w : World) : Calls Tryd.prog 34 #[.agg #[.string x.1, .string x.2]] w (BelowPost (.bool (oddP x)) w) := by
  obtain ⟨n, v⟩ := x
  simp only at hx
  have HS := Lib.hid (fun w => says_any2 (n, v) w)
  have HC := Lib.hid (fun w => capitals_any v hx w)
  have HW := Lib.hid (show oddP (n, v) = (saysP (n, v) || (decide (n.size = 0) && !decide (capS v = v))) from rfl)
  obtain ⟨b, hb⟩ : ∃ b, saysP (n, v) = b := ⟨_, rfl⟩
  rw [hb] at HS HW
  clear hb
  obtain ⟨u, hu⟩ : ∃ u, capS v = u := ⟨_, rfl⟩
  rw [hu] at HC HW
  clear hu
  obtain ⟨w2, hw2⟩ : ∃ w2, w.alloc (.cells #[.string n, .string v] 58) = w2 := ⟨_, rfl⟩
  have hb0 : Below w.heap.size w w2 := by rw [← hw2]; exact (Below.refl _ w).alloc (Nat.le_refl _) _
  have hz2 : w.heap.size < w2.heap.size := by rw [← hw2]; simp
  have c0 : w2.cell? ⟨w.heap.size, 0, none⟩ = some (.string n) := by rw [← hw2]; simp [go_sem]
  have c1 : w2.cell? ⟨w.heap.size, 1, none⟩ = some (.string v) := by rw [← hw2]; simp [go_sem]
  have q0 : ∀ x : Bel w2, _ := fun x => x.cell c0 hz2
  have q1 : ∀ x : Bel w2, _ := fun x => x.cell c1 hz2
  have hE := empty_list n
  simp only
  cases b with
  | true =>
    clear hE
    go_enter Tryd.func34, Tryd.ntmps34
    go_wp2_with fail
    (refine wp_region_bel (by kernel_rfl) (by kernel_rfl) ?_; (repeat (any_goals (go_big_quiet_step (((first | (go_at_call 59; exact Bel.call (HS.out _)) | (go_at_call 60; exact Bel.call (HC.out _)))))))); all_goals (refine wpQuiet_nil ?_; intro wq hw'; obtain ⟨⟨wq2, hwq⟩, hw''⟩ := hw'; have hw3 : wq = wq2 := hw''; clear hw''; subst hw3))
    all_goals
      go_wp2_with fail
      go_ret
      exact ⟨by rw [HW.out]; rfl, chain hb0 hwq⟩
  | false =>
    by_cases h0 : n.size = 0
    · have hn : n.toList = [] := by rw [decide_eq_true h0] at hE; simpa using hE
      have he : (n.toList == ([] : List UInt8)) = true := by rw [hn]; rfl
      have he2 : n.toList.isEmpty = true := by rw [hn]; rfl
      have HN := Lib.hid h0
      have hq := str_eq u v
      obtain ⟨q, hq2⟩ : ∃ q, decide (u = v) = q := ⟨_, rfl⟩
      rw [hq2] at hq HW
      clear hE hn h0 hq2
      go_enter Tryd.func34, Tryd.ntmps34
      go_wp2_with fail
      (refine wp_region_bel (by kernel_rfl) (by kernel_rfl) ?_; (repeat (any_goals (go_big_quiet_step (((first | (go_at_call 59; exact Bel.call (HS.out _)) | (go_at_call 60; exact Bel.call (HC.out _)))))))); all_goals (refine wpQuiet_nil ?_; intro wq hw'; obtain ⟨⟨wq2, hwq⟩, hw''⟩ := hw'; have hw3 : wq = wq2 := hw''; clear hw''; subst hw3))
      all_goals
        go_wp2_with fail
        go_ret
        exact ⟨by rw [HW.out, decide_eq_true HN.out]; cases q <;> simp_all <;> rfl, chain hb0 hwq⟩
    · have hn : n.toList ≠ [] := by rw [decide_eq_false h0] at hE; simpa using hE
      have he : (n.toList == ([] : List UInt8)) = false := by simpa using hn
      have he2 : n.toList.isEmpty = false := by simpa using hn
      have HN := Lib.hid h0
      clear hE hn h0
      go_enter Tryd.func34, Tryd.ntmps34
      go_wp2_with fail
      (refine wp_region_bel (by kernel_rfl) (by kernel_rfl) ?_; (repeat (any_goals (go_big_quiet_step (((first | (go_at_call 59; exact Bel.call (HS.out _)) | (go_at_call 60; exact Bel.call (HC.out _)))))))); all_goals (refine wpQuiet_nil ?_; intro wq hw'; obtain ⟨⟨wq2, hwq⟩, hw''⟩ := hw'; have hw3 : wq = wq2 := hw''; clear hw''; subst hw3))
      all_goals
        go_wp2_with fail
        go_ret
        exact ⟨by rw [HW.out, decide_eq_false HN.out]; rfl, chain hb0 hwq⟩
end Go.Proofs.YtcfbmfcobpfcjaaDoor
