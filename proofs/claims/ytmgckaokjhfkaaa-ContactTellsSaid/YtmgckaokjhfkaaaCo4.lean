/- Contacts: how many fields are in one of two alone; too much of one. -/
import Derived.Test.YtmgckaokjhfkaaaCo3
namespace Go.Proofs.Ytmgckaokjhfkaaa
open Go.RowKit Lift
set_option linter.unusedSimpArgs false
set_option linter.unusedVariables false

set_option maxHeartbeats 1000000 in
set_option maxRecDepth 100000 in
theorem changes_any (ao bo : Option Addr) (cap cap2 : Nat) (l m : List Fld) (w : World) (hl : SlAt rFld (· < w.heap.size) w ao l) (hm : SlAt rFld (· < w.heap.size) w bo m) (hlen : l.length ≤ 100000) (hlm : m.length ≤ 100000) :
    Calls Try.prog 12 #[.agg #[.slice ao l.length cap], .agg #[.slice bo m.length cap2]] w (BelowPost (.int .i64 (alone l m + alone m l : Nat)) w) := by
  have hA : Below w.heap.size w (((w.alloc (.cells #[.slice ao l.length cap] 24)).alloc (.cells #[.slice bo m.length cap2] 24)).alloc (.cells #[.int .i64 0] 3)) := (((Below.refl _ _).alloc (Nat.le_refl _) _).alloc (by simp) _).alloc (by simp; omega) _
  have H1 := Lib.hid (apart_any (w.heap.size + 1 + 1) w.heap.size 0 ao bo cap cap2 l m (((w.alloc (.cells #[.slice ao l.length cap] 24)).alloc (.cells #[.slice bo m.length cap2] 24)).alloc (.cells #[.int .i64 0] 3)) (by omega) (by simp) (hl.old hA) (hm.old hA) hlen hlm (by omega) (by simp [go_sem]) (by simp [go_sem]))
  have hale := alone_le l m
  go_enter Try.func12, Try.ntmps12
  go_wp2_with fail
  refine H1.out.mono ?_
  rintro e w3 ⟨rfl, hc3, hf3, hK3⟩
  rw [Nat.zero_add] at hc3
  have hz3 := hK3.size
  simp only [World.size_alloc] at hz3
  have bx0 : w3.cell? ⟨w.heap.size, 0, none⟩ = some (.slice ao l.length cap) := by rw [hK3.cell (p := ⟨w.heap.size, 0, none⟩) (by simp; omega) (by simp; omega)]; simp [go_sem]
  have by0 : w3.cell? ⟨w.heap.size + 1, 0, none⟩ = some (.slice bo m.length cap2) := by rw [hK3.cell (p := ⟨w.heap.size + 1, 0, none⟩) (by simp) (by simp)]; simp [go_sem]
  have hB3 : Below w.heap.size w w3 := hA.trans (hK3.below (by simp; omega) (fun k h => by omega))
  have H2 := Lib.hid (apart_any (w.heap.size + 1 + 1) w.heap.size (alone l m) bo ao cap2 cap m l w3 (by omega) (by omega) (hm.old hB3) (hl.old hB3) hlm hlen (by omega) hc3 hf3)
  go_wp2_with fail
  refine H2.out.mono ?_
  rintro e w4 ⟨rfl, hc4, hf4, hK4⟩
  go_wp2_with fail
  go_ret
  exact ⟨rfl, hB3.trans (hK4.below (by omega) (fun k h => by omega))⟩

set_option maxHeartbeats 1000000 in
set_option maxRecDepth 100000 in
theorem changes_ref (ao bo : Option Addr) (cap cap2 : Nat) (l m : List Fld) (w : World) (hl : SlAt rFld (· < w.heap.size) w ao l) (hm : SlAt rFld (· < w.heap.size) w bo m) (hlen : l.length ≤ 100000) (hlm : m.length ≤ 100000) :
    Calls Try.prog 13 #[.agg #[.slice ao l.length cap], .agg #[.slice bo m.length cap2]] w (BelowPost (.int .i64 (alone l m + alone m l : Nat)) w) := by
  have hA : Below w.heap.size w ((w.alloc (.cells #[.slice ao l.length cap] 24)).alloc (.cells #[.slice bo m.length cap2] 24)) := ((Below.refl _ _).alloc (Nat.le_refl _) _).alloc (by simp) _
  go_enter Try.func13, Try.ntmps13
  go_wp2_with fail
  go_loopw [5, 6] (fun v5 v6 wr => ∃ k : Nat, k ≤ l.length ∧ v6 = .int .i64 k ∧ v5 = .int .i64 (alone (l.take k) m : Nat) ∧ Below (w.heap.size + 1 + 1) ((w.alloc (.cells #[.slice ao l.length cap] 24)).alloc (.cells #[.slice bo m.length cap2] 24)) wr) (fun _ v6 _ => l.length - (intOf v6).toNat)
  case atStart => exact ⟨0, by omega, rfl, by simp [alone], Below.refl _ _⟩
  case round =>
    obtain ⟨k, hk, rfl, rfl, hb⟩ := hrel
    have hB := hA.trans (hb.mono (by omega))
    obtain ⟨hc, hf⟩ := bcell hb
    have hz := bsize hb
    simp only [World.size_alloc] at hz
    have bx0 : wr.cell? ⟨w.heap.size, 0, none⟩ = some (.slice ao l.length cap) := by rw [hc _ _ (by omega)]; first | (simp [go_sem]; done) | (simp [go_sem]; rfl)
    have by0 : wr.cell? ⟨w.heap.size + 1, 0, none⟩ = some (.slice bo m.length cap2) := by rw [hc _ _ (by omega)]; first | (simp [go_sem]; done) | (simp [go_sem]; rfl)
    clear hc hf
    have hale := alone_le (l.take k) m
    have hale2 : alone (l.take k) m ≤ 100000 := by simp at hale; omega
    by_cases hkl : k < l.length
    · obtain ⟨c, hcl⟩ := some_at hkl
      obtain ⟨bb, oo, rfl, hs1, hb1, hok, x0, x1, x2⟩ := fld_get (hl.old hB) hcl
      have hkl2 : (k : Int) < (l.length : Int) := by omega
      have hlim : k ≤ 100000 := by omega
      have hT := alone_snoc (l.take k) m c
      rw [← take_at2 hcl] at hT
      clear hale
      have HC := Lib.hid (fun (x : Bel wr) => in_ref bo cap2 m c x.w' ((hm.old hB).here.old x.below).here hlm)
      unfold encFld at HC
      have hlt0 : w.heap.size < wr.heap.size := by omega
      have hlt1 : w.heap.size + 1 < wr.heap.size := by omega
      have q0 : ∀ x : Bel wr, _ := fun x => x.cell bx0 hlt0
      have q1 : ∀ x : Bel wr, _ := fun x => x.cell by0 hlt1
      have q2 : ∀ x : Bel wr, _ := fun x => x.cell x0 hb1
      have q3 : ∀ x : Bel wr, _ := fun x => x.cell x1 hb1
      have q4 : ∀ x : Bel wr, _ := fun x => x.cell x2 hb1
      cases hh : hasF m c with
      | true =>
        have HT := Lib.hid (show alone (l.take (k + 1)) m = alone (l.take k) m by rw [hT, hh]; simp)
        rw [hh] at HC
        clear hT hh
        go_wp2_with fail
        (refine wp_region_bel (by kernel_rfl) (by kernel_rfl) ?_; (repeat (any_goals (go_big_quiet_step ((exact Bel.call (HC.out _)))))); all_goals (refine wpQuiet_nil ?_; intro wq hw'; obtain ⟨⟨wq2, hwq⟩, hw''⟩ := hw'; have hw3 : wq = wq2 := hw''; clear hw''; subst hw3))
        go_wp2_with fail
        go_roundw
        case measure => simp [intOf]; omega
        case rel => exact ⟨k + 1, by omega, by go_num, by rw [HT.out], hb.trans (hwq.mono (by omega))⟩
      | false =>
        have HT := Lib.hid (show alone (l.take (k + 1)) m = alone (l.take k) m + 1 by rw [hT, hh]; simp)
        rw [hh] at HC
        clear hT hh
        go_wp2_with fail
        (refine wp_region_bel (by kernel_rfl) (by kernel_rfl) ?_; (repeat (any_goals (go_big_quiet_step ((exact Bel.call (HC.out _)))))); all_goals (refine wpQuiet_nil ?_; intro wq hw'; obtain ⟨⟨wq2, hwq⟩, hw''⟩ := hw'; have hw3 : wq = wq2 := hw''; clear hw''; subst hw3))
        go_wp2_with fail
        go_roundw
        case measure => simp [intOf]; omega
        case rel => exact ⟨k + 1, by omega, by go_num, by rw [HT.out]; go_num, hb.trans (hwq.mono (by omega))⟩
    · obtain rfl : k = l.length := by omega
      rw [List.take_length] at hale
      go_wp2_with fail
      go_loopw [5, 7] (fun v5 v7 wx => ∃ k : Nat, k ≤ m.length ∧ v7 = .int .i64 k ∧ v5 = .int .i64 (alone l m + alone (m.take k) l : Nat) ∧ Below (w.heap.size + 1 + 1) ((w.alloc (.cells #[.slice ao l.length cap] 24)).alloc (.cells #[.slice bo m.length cap2] 24)) wx) (fun _ v7 _ => m.length - (intOf v7).toNat)
      case atStart => exact ⟨0, by omega, rfl, by rw [List.take_length]; simp [alone], hb⟩
      case round =>
        obtain ⟨k, hk, rfl, rfl, hb⟩ := hrel
        have hB := hA.trans (hb.mono (by omega))
        obtain ⟨hc, hf⟩ := bcell hb
        have hz := bsize hb
        simp only [World.size_alloc] at hz
        have cx0 : wr.cell? ⟨w.heap.size, 0, none⟩ = some (.slice ao l.length cap) := by rw [hc _ _ (by omega)]; first | (simp [go_sem]; done) | (simp [go_sem]; rfl)
        have cy0 : wr.cell? ⟨w.heap.size + 1, 0, none⟩ = some (.slice bo m.length cap2) := by rw [hc _ _ (by omega)]; first | (simp [go_sem]; done) | (simp [go_sem]; rfl)
        clear hc hf
        have half := alone_le (m.take k) l
        have halg : alone (m.take k) l ≤ 100000 := by simp at half; omega
        by_cases hkm : k < m.length
        · obtain ⟨c, hcl⟩ := some_at hkm
          obtain ⟨bb, oo, rfl, hs1, hb1, hok, x0, x1, x2⟩ := fld_get (hm.old hB) hcl
          have hkl2 : (k : Int) < (m.length : Int) := by omega
          have hlim : k ≤ 100000 := by omega
          have hT := alone_snoc (m.take k) l c
          rw [← take_at2 hcl] at hT
          clear half
          have HC := Lib.hid (fun (x : Bel wr) => in_ref ao cap l c x.w' ((hl.old hB).here.old x.below).here hlen)
          unfold encFld at HC
          have hlt0 : w.heap.size < wr.heap.size := by omega
          have hlt1 : w.heap.size + 1 < wr.heap.size := by omega
          have q0 : ∀ x : Bel wr, _ := fun x => x.cell cx0 hlt0
          have q1 : ∀ x : Bel wr, _ := fun x => x.cell cy0 hlt1
          have q2 : ∀ x : Bel wr, _ := fun x => x.cell x0 hb1
          have q3 : ∀ x : Bel wr, _ := fun x => x.cell x1 hb1
          have q4 : ∀ x : Bel wr, _ := fun x => x.cell x2 hb1
          cases hh : hasF l c with
          | true =>
            have HT := Lib.hid (show alone (m.take (k + 1)) l = alone (m.take k) l by rw [hT, hh]; simp)
            rw [hh] at HC
            clear hT hh
            go_wp2_with fail
            (refine wp_region_bel (by kernel_rfl) (by kernel_rfl) ?_; (repeat (any_goals (go_big_quiet_step ((exact Bel.call (HC.out _)))))); all_goals (refine wpQuiet_nil ?_; intro wq hw'; obtain ⟨⟨wq2, hwq⟩, hw''⟩ := hw'; have hw3 : wq = wq2 := hw''; clear hw''; subst hw3))
            go_wp2_with fail
            go_roundw
            case measure => simp [intOf]; omega
            case rel => exact ⟨k + 1, by omega, by go_num, by rw [HT.out], hb.trans (hwq.mono (by omega))⟩
          | false =>
            have HT := Lib.hid (show alone (m.take (k + 1)) l = alone (m.take k) l + 1 by rw [hT, hh]; simp)
            rw [hh] at HC
            clear hT hh
            go_wp2_with fail
            (refine wp_region_bel (by kernel_rfl) (by kernel_rfl) ?_; (repeat (any_goals (go_big_quiet_step ((exact Bel.call (HC.out _)))))); all_goals (refine wpQuiet_nil ?_; intro wq hw'; obtain ⟨⟨wq2, hwq⟩, hw''⟩ := hw'; have hw3 : wq = wq2 := hw''; clear hw''; subst hw3))
            go_wp2_with fail
            go_roundw
            case measure => simp [intOf]; omega
            case rel => exact ⟨k + 1, by omega, by go_num, by rw [HT.out]; go_num, hb.trans (hwq.mono (by omega))⟩
        · obtain rfl : k = m.length := by omega
          rw [List.take_length]
          go_wp2_with fail
          go_ret
          exact ⟨rfl, hB⟩

def sizeF (room : Int) (i : Nat) (c : Fld) : Bool := decide (60 < (i : Int)) || decide (100 < (c.1.size : Int)) || decide (300 < (c.2.1.size : Int)) || decide (room < (c.2.2.size : Int))
/-- Is it too much, from a field on, with so much room? -/
def greatF : Int → Nat → List Fld → Bool
  | _, _, [] => false
  | room, i, c :: r => if sizeF room i c then true else greatF (room - c.2.2.size) (i + 1) r
theorem greatF_len : ∀ (l : List Fld) (room : Int) (i : Nat), greatF room i l = false → i + l.length ≤ max i 61
  | [], room, i, h => by simp; omega
  | c :: r, room, i, h => by
    rw [greatF] at h
    split at h
    · cases h
    · rename_i hs
      have := greatF_len r _ _ h
      simp [sizeF] at hs
      simp
      omega

set_option maxHeartbeats 1000000 in
set_option maxRecDepth 100000 in
theorem great_con (ao : Option Addr) (cap : Nat) (l : List Fld) (w : World) (hl : SlAt rFld (· < w.heap.size) w ao l) (hlen : l.length ≤ 9223372036854775807) :
    Calls Try.prog 5 #[.agg #[.slice ao l.length cap]] w (BelowPost (.bool (greatF 8000 0 l)) w) := by
  have hA : Below w.heap.size w (w.alloc (.cells #[.slice ao l.length cap] 24)) := (Below.refl _ _).alloc (Nat.le_refl _) _
  go_enter Try.func5, Try.ntmps5
  go_wp2_with fail
  go_loopw [3, 4] (fun v3 v4 wr => ∃ (k : Nat) (room : Nat), k ≤ l.length ∧ k ≤ 61 ∧ room ≤ 8000 ∧ v4 = .int .i64 k ∧ v3 = .int .i64 room ∧ Hid (greatF 8000 0 l = greatF room k (l.drop k)) ∧ Below (w.heap.size + 1) (w.alloc (.cells #[.slice ao l.length cap] 24)) wr) (fun _ v4 _ => l.length - (intOf v4).toNat)
  case atStart => exact ⟨0, 8000, by omega, by omega, by omega, rfl, rfl, Lib.hid rfl, Below.refl _ _⟩
  case round =>
    obtain ⟨k, room, hk, hk61, hroom, rfl, rfl, hg, hb⟩ := hrel
    have hB := hA.trans (hb.mono (by omega))
    obtain ⟨hc, hf⟩ := bcell hb
    have hz := bsize hb
    simp only [World.size_alloc] at hz
    have cx0 : wr.cell? ⟨w.heap.size, 0, none⟩ = some (.slice ao l.length cap) := by rw [hc _ _ (by omega)]; first | (simp [go_sem]; done) | (simp [go_sem]; rfl)
    clear hc hf
    by_cases hkl : k < l.length
    · obtain ⟨c, hcl⟩ := some_at hkl
      obtain ⟨bb, oo, rfl, hs1, hb1, hok, x0, x1, x2⟩ := fld_get (hl.old hB) hcl
      have hkl2 : (k : Int) < (l.length : Int) := by omega
      have hg2 := hg.out
      rw [drop_at2 hcl, greatF] at hg2
      have hz3 : c.2.2.size ≤ 9223372036854775807 := by have := hok.2.2; simpa [maxLen] using this
      by_cases h1 : 60 < k
      · have d1 : decide ((60:Int) < (k:Int)) = true := by simp; omega
        have HG := Lib.hid (show greatF 8000 0 l = true by rw [hg2, if_pos]; simp [sizeF]; omega)
        clear hg2
        go_wp2_with fail
        go_ret
        exact ⟨by rw [HG.out]; rfl, hB.alloc (by omega) _⟩
      · have d1 : decide ((60:Int) < (k:Int)) = false := by simp; omega
        by_cases h2 : 100 < c.1.size
        · have d2 : decide ((100:Int) < (c.1.size:Int)) = true := by simp; omega
          have HG := Lib.hid (show greatF 8000 0 l = true by rw [hg2, if_pos]; simp [sizeF]; omega)
          clear hg2
          go_wp2_with fail
          go_ret
          exact ⟨by rw [HG.out]; rfl, hB.alloc (by omega) _⟩
        · have d2 : decide ((100:Int) < (c.1.size:Int)) = false := by simp; omega
          by_cases h3 : 300 < c.2.1.size
          · have d3 : decide ((300:Int) < (c.2.1.size:Int)) = true := by simp; omega
            have HG := Lib.hid (show greatF 8000 0 l = true by rw [hg2, if_pos]; simp [sizeF]; omega)
            clear hg2
            go_wp2_with fail
            go_ret
            exact ⟨by rw [HG.out]; rfl, hB.alloc (by omega) _⟩
          · have d3 : decide ((300:Int) < (c.2.1.size:Int)) = false := by simp; omega
            by_cases h4 : room < c.2.2.size
            · have d4 : decide (room < c.2.2.size) = true := by simp; omega
              have HG := Lib.hid (show greatF 8000 0 l = true by rw [hg2, if_pos]; simp [sizeF]; omega)
              clear hg2
              go_wp2_with fail
              go_ret
              exact ⟨by rw [HG.out]; rfl, hB.alloc (by omega) _⟩
            · have d4 : decide (room < c.2.2.size) = false := by simp; omega
              have HG := Lib.hid (show greatF 8000 0 l = greatF (room - c.2.2.size) (k + 1) (l.drop (k + 1)) by rw [hg2, if_neg]; simp [sizeF]; omega)
              clear hg2
              go_wp2_with fail
              go_roundw
              case measure => simp [intOf]; omega
              case rel => exact ⟨k + 1, room - c.2.2.size, by omega, by omega, by omega, by go_num, by go_num, Lib.hid (by rw [HG.out]; congr 1; omega), hb.alloc (by omega) _⟩
    · obtain rfl : k = l.length := by omega
      have hg2 := hg.out
      rw [List.drop_length, greatF] at hg2
      have HG := Lib.hid hg2
      clear hg2
      go_wp2_with fail
      go_ret
      exact ⟨by rw [HG.out]; rfl, hB⟩
end Go.Proofs.Ytmgckaokjhfkaaa
