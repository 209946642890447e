/- Contacts: whether a field is in one; how many are in one alone. -/
import Derived.Test.YtmgckaokjhfkaaaCo2
namespace Go.Proofs.Ytmgckaokjhfkaaa
open Go.RowKit Lift
set_option linter.unusedSimpArgs false
set_option linter.unusedVariables false


def hasF (m : List Fld) (c : Fld) : Bool := m.any fun d => decide (d = c)
theorem hasF_nil (c : Fld) : hasF [] c = false := rfl
theorem hasF_cons (d : Fld) (m : List Fld) (c : Fld) : hasF (d :: m) c = (decide (d = c) || hasF m c) := rfl
set_option maxHeartbeats 1000000 in
set_option maxRecDepth 100000 in
theorem in_ref (ao : Option Addr) (cap : Nat) (l : List Fld) (c : Fld) (w : World) (hl : SlAt rFld (· < w.heap.size) w ao l) (hlen : l.length ≤ 100000) :
    Calls Try.prog 21 #[.agg #[.slice ao l.length cap], encFld c] w (BelowPost (.bool (hasF l c)) w) := by
  unfold encFld
  have hA : Below w.heap.size w ((w.alloc (.cells #[.slice ao l.length cap] 24)).alloc (.cells #[.string c.1, .string c.2.1, .string c.2.2] 34)) := ((Below.refl _ _).alloc (Nat.le_refl _) _).alloc (by simp) _
  go_enter Try.func21, Try.ntmps21
  go_wp2_with fail
  go_loopw [5] (fun v5 wr => ∃ k : Nat, k ≤ l.length ∧ v5 = .int .i64 k ∧ Hid (hasF l c = hasF (l.drop k) c) ∧ Below (w.heap.size + 1 + 1) ((w.alloc (.cells #[.slice ao l.length cap] 24)).alloc (.cells #[.string c.1, .string c.2.1, .string c.2.2] 34)) wr) (fun v5 _ => l.length - (intOf v5).toNat)
  case atStart => exact ⟨0, by omega, rfl, Lib.hid rfl, Below.refl _ _⟩
  case round =>
    obtain ⟨k, hk, rfl, hix, hb⟩ := hrel
    have hB := hA.trans (hb.mono (by omega))
    obtain ⟨hc, hf⟩ := bcell hb
    have hz := bsize hb
    simp only [World.size_alloc] at hz
    have bx0 : wr.cell? ⟨w.heap.size, 0, none⟩ = some (.slice ao l.length cap) := by rw [hc _ _ (by omega)]; first | (simp [go_sem]; done) | (simp [go_sem]; rfl)
    have by0 : wr.cell? ⟨w.heap.size + 1, 0, none⟩ = some (.string c.1) := by rw [hc _ _ (by omega)]; first | (simp [go_sem]; done) | (simp [go_sem]; rfl)
    have by1 : wr.cell? ⟨w.heap.size + 1, 1, none⟩ = some (.string c.2.1) := by rw [hc _ _ (by omega)]; first | (simp [go_sem]; done) | (simp [go_sem]; rfl)
    have by2 : wr.cell? ⟨w.heap.size + 1, 2, none⟩ = some (.string c.2.2) := by rw [hc _ _ (by omega)]; first | (simp [go_sem]; done) | (simp [go_sem]; rfl)
    clear hc hf
    by_cases hkl : k < l.length
    · obtain ⟨d, hcl⟩ := some_at hkl
      obtain ⟨bb, oo, rfl, hs1, hb1, hok, x0, x1, x2⟩ := fld_get (hl.old hB) hcl
      have hkl2 : (k : Int) < (l.length : Int) := by omega
      have hlim : k ≤ 100000 := by omega
      have hi2 := hix.out
      rw [drop_at2 hcl, hasF_cons] at hi2
      by_cases hcd : d = c
      · subst hcd
        have HI := Lib.hid (show hasF l d = true by rw [hi2]; simp)
        clear hi2 hix
        go_wp2_with fail
        (refine wp_region_quiet_lit (by kernel_rfl) (by kernel_rfl) ?_; (repeat (any_goals (first | go_big_quiet_step (fail) | quiet_step (fail) | (refine wpQuiet_step (fun K hK => ?_); go_simp; split <;> (refine hK _ ?_; clear hK K))))); all_goals (refine wpQuiet_nil ?_; intro _ hw'; obtain ⟨nq, hw''⟩ := hw'; subst hw''))
        go_wp2_with fail
        go_ret
        exact ⟨by rw [HI.out]; rfl, bN _ hB⟩
      · have HI := Lib.hid (show hasF l c = hasF (l.drop (k + 1)) c by rw [hi2]; simp [hcd])
        clear hi2 hix
        have hne := fld_ne hcd
        clear hcd
        rcases hne with e0 | ⟨e0, e1⟩ | ⟨e0, e1, e2⟩
        all_goals
          go_wp2_with fail
          (refine wp_region_quiet_lit (by kernel_rfl) (by kernel_rfl) ?_; (repeat (any_goals (first | go_big_quiet_step (fail) | quiet_step (fail) | (refine wpQuiet_step (fun K hK => ?_); go_simp; split <;> (refine hK _ ?_; clear hK K))))); all_goals (refine wpQuiet_nil ?_; intro _ hw'; obtain ⟨nq, hw''⟩ := hw'; subst hw''))
          go_wp2_with fail
          go_roundw
          case measure => simp [intOf]; omega
          case rel => exact ⟨k + 1, by omega, by go_num, HI, bN _ hb⟩
    · obtain rfl : k = l.length := by omega
      have hi2 := hix.out
      rw [List.drop_length, hasF_nil] at hi2
      have HI := Lib.hid hi2
      clear hi2 hix
      go_wp2_with fail
      go_ret
      exact ⟨by rw [HI.out]; rfl, hB⟩

/-- How many of l are not in m. -/
def alone (l m : List Fld) : Nat := (l.filter fun c => !hasF m c).length
theorem alone_snoc (l m : List Fld) (c : Fld) : alone (l ++ [c]) m = alone l m + if hasF m c then 0 else 1 := by
  unfold alone; rw [List.filter_append, List.length_append]; cases h : hasF m c <;> simp [h]
theorem alone_le (l m : List Fld) : alone l m ≤ l.length := List.length_filter_le _ _
def ApartPost (bn : Nat) (n : Int) (w : World) (x : Ending) (w' : World) : Prop := x = .returned (.tuple #[]) ∧ w'.cell? ⟨bn, 0, none⟩ = some (.int .i64 n) ∧ w'.frozen? ⟨bn, 0, none⟩ = false ∧ Kept (· = bn) w w'
set_option maxHeartbeats 1000000 in
set_option maxRecDepth 100000 in
theorem apart_any (bn B : Nat) (n0 : Nat) (ao bo : Option Addr) (cap cap2 : Nat) (l m : List Fld) (w : World) (hB : B ≤ bn) (hbn : bn < w.heap.size) (hl : SlAt rFld (· < B) w ao l) (hm : SlAt rFld (· < B) w bo m) (hlen : l.length ≤ 100000) (hlm : m.length ≤ 100000) (hn0 : n0 ≤ 100000)
    (hc0 : w.cell? ⟨bn, 0, none⟩ = some (.int .i64 n0)) (hf0 : w.frozen? ⟨bn, 0, none⟩ = false) :
    Calls Try.prog 19 #[.agg #[.slice ao l.length cap], .agg #[.slice bo m.length cap2], .pointer (some ⟨bn, 0, none⟩)] w (ApartPost bn (n0 + alone l m : Nat) w) := by
  have hA : Below w.heap.size w ((w.alloc (.cells #[.slice ao l.length cap] 24)).alloc (.cells #[.slice bo m.length cap2] 24)) := ((Below.refl _ _).alloc (Nat.le_refl _) _).alloc (by simp) _
  have hc1 := (hA.cell (p := ⟨bn, 0, none⟩) hbn).trans hc0
  have hf1 := (hA.frozen (p := ⟨bn, 0, none⟩) hbn).trans hf0
  go_enter Try.func19, Try.ntmps19
  go_wp2_with fail
  go_loopw [10] (fun v10 wr => ∃ k : Nat, k ≤ l.length ∧ v10 = .int .i64 k ∧ wr.cell? ⟨bn, 0, none⟩ = some (.int .i64 (n0 + alone (l.take k) m : Nat)) ∧ wr.frozen? ⟨bn, 0, none⟩ = false ∧ Kept (· = bn) ((w.alloc (.cells #[.slice ao l.length cap] 24)).alloc (.cells #[.slice bo m.length cap2] 24)) wr) (fun v10 _ => l.length - (intOf v10).toNat)
  case atStart => exact ⟨0, by omega, rfl, by simpa [alone] using hc1, hf1, Kept.refl _ _⟩
  case round =>
    obtain ⟨k, hk, rfl, hcn, hfn, hK⟩ := hrel
    have hz := hK.size
    simp only [World.size_alloc] at hz
    have hK0 : Kept (· = bn) w wr := (Kept.of_below hA _).trans hK (fun _ _ h => h) (fun _ _ h => h)
    have bx0 : wr.cell? ⟨w.heap.size, 0, none⟩ = some (.slice ao l.length cap) := by rw [hK.cell (p := ⟨w.heap.size, 0, none⟩) (by simp; omega) (by simp; omega)]; simp [go_sem]
    have by0 : wr.cell? ⟨w.heap.size + 1, 0, none⟩ = some (.slice bo m.length cap2) := by rw [hK.cell (p := ⟨w.heap.size + 1, 0, none⟩) (by simp) (by simp; omega)]; simp [go_sem]
    have hlt0 : w.heap.size < wr.heap.size := by omega
    have hlt1 : w.heap.size + 1 < wr.heap.size := by omega
    have hltn : bn < wr.heap.size := by omega
    have hlr := hl.kept hK0 (fun b h1 _ h2 => by omega)
    have hmr := hm.kept hK0 (fun b h1 _ h2 => by omega)
    by_cases hkl : k < l.length
    · obtain ⟨c, hcl⟩ := some_at hkl
      obtain ⟨bb, oo, rfl, hs1, hb1, hok, x0, x1, x2⟩ := fld_get hlr hcl
      have hkl2 : (k : Int) < (l.length : Int) := by omega
      have hlim : k ≤ 100000 := by omega
      have hale := alone_le (l.take k) m
      have hale2 : alone (l.take k) m ≤ 100000 := by simp at hale; omega
      have hT := alone_snoc (l.take k) m c
      rw [← take_at2 hcl] at hT
      have hb5 : Below wr.heap.size wr (wr.alloc (.cells #[.string c.1, .string c.2.1, .string c.2.2] 34)) := (Below.refl _ _).alloc (Nat.le_refl _) _
      have HC := Lib.hid (has_fld bo cap2 m c _ (hmr.below hb5).here hlm)
      unfold encFld at HC
      cases hh : hasF m c with
      | true =>
        have HT := Lib.hid (show alone (l.take (k + 1)) m = alone (l.take k) m by rw [hT, hh]; simp)
        rw [show (m.any fun d => decide (d = c)) = true from hh] at HC
        clear hT hh hale
        go_wp2_with fail
        refine HC.out.mono ?_
        rintro e w3 ⟨rfl, hb3⟩
        have hb6 := chain hb5 hb3
        go_wp2_with fail
        go_roundw
        case measure => simp [intOf]; omega
        case rel => exact ⟨k + 1, by omega, by go_num, by rw [HT.out]; exact (hb6.cell (p := ⟨bn, 0, none⟩) (by simp; omega)).trans hcn, (hb6.frozen (p := ⟨bn, 0, none⟩) (by simp; omega)).trans hfn, hK.step hb6⟩
      | false =>
        have HT := Lib.hid (show alone (l.take (k + 1)) m = alone (l.take k) m + 1 by rw [hT, hh]; simp)
        rw [show (m.any fun d => decide (d = c)) = false from hh] at HC
        clear hT hh hale
        go_wp2_with fail
        refine HC.out.mono ?_
        rintro e w3 ⟨rfl, hb3⟩
        have hb6 := chain hb5 hb3
        have hcn3 := (hb6.cell (p := ⟨bn, 0, none⟩) (by simp; omega)).trans hcn
        have hfn3 := (hb6.frozen (p := ⟨bn, 0, none⟩) (by simp; omega)).trans hfn
        go_wp2_with fail
        go_roundw
        case measure => simp [intOf]; omega
        case rel => exact ⟨k + 1, by omega, by go_num, by rw [HT.out]; refine (World.cell?_setCell_same _ _ _ hcn3).trans ?_; congr 2 <;> (first | (push_cast; done) | (push_cast; omega)), by rw [World.frozen?_setCell]; exact hfn3, (hK.step hb6).set rfl⟩
    · obtain rfl : k = l.length := by omega
      rw [List.take_length] at hcn
      go_wp2_with fail
      go_returns
      exact ⟨rfl, hcn, hfn, hK0⟩
end Go.Proofs.Ytmgckaokjhfkaaa
