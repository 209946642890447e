/- The law's guard: whether a card is too much to be asked. -/
import Derived.Test.YtcfbmfcobpfcjaaDoorVcDeep
namespace Go.Proofs.YtcfbmfcobpfcjaaDoor
open Go.RowKit Lift
set_option linter.unusedSimpArgs false
set_option linter.unusedVariables false

/-- A card that is not too much. -/
def FineC : Nat → Crd → Prop
  | 0, _ => False
  | m + 1, c => c.props.length ≤ 60 ∧ ∀ p ∈ c.props, p.2.2.1.length ≤ 20 ∧ p.2.2.2.1.size ≤ 6000 ∧ p.2.2.2.2.length ≤ 4 ∧ ∀ a ∈ p.2.2.2.2, FineC m a
def WPost (m : Nat) (c : Crd) (w : World) (e : Ending) (w' : World) : Prop :=
  ∃ (r : Int) (b : Bool), e = .returned (.tuple #[.int .i64 r, .bool b]) ∧ (b = false → FineC m c) ∧ -20 ≤ r ∧ r ≤ 6000 ∧ Below w.heap.size w w'
def FineP (m : Nat) (p : CProp) : Prop := p.2.2.1.length ≤ 20 ∧ p.2.2.2.1.size ≤ 6000 ∧ p.2.2.2.2.length ≤ 4 ∧ ∀ a ∈ p.2.2.2.2, FineC m a
theorem fine_take {α : Type} {P : α → Prop} {l : List α} {k : Nat} {c : α} (h : ∀ x ∈ l.take k, P x) (hk : l[k]? = some c) (hc : P c) : ∀ x ∈ l.take (k + 1), P x := by
  intro x hx
  rw [take_at2 hk] at hx
  rcases List.mem_append.1 hx with hx | hx
  · exact h x hx
  · simp at hx; subst hx; exact hc
set_option maxHeartbeats 8000000 in
set_option maxRecDepth 100000 in
theorem weigh_any : ∀ (m : Nat), m ≤ 12 → ∀ (d : Nat) (c : Crd) (cs : Array Value) (room : Int) (w : World), -20 ≤ room → room ≤ 6000 → (rCrd d).rel (· < w.heap.size) w cs.toList c →
    Calls Tryd.prog 10 #[.agg cs, .int .i64 room, .int .i64 (m : Int)] w (WPost m c w)
  | 0, hm, d, c, cs, room, w, hr1, hr2, h => by
    obtain ⟨d', ao, cap, rfl, h1, h2, h3, h4, h5⟩ := card_inv h
    obtain rfl : cs = #[.slice ao c.props.length cap] := Array.toList_inj.1 (by rw [h1])
    clear h
    have hb0 : Below w.heap.size w (w.alloc (.cells #[.slice ao c.props.length cap] 24)) := (Below.refl _ w).alloc (Nat.le_refl _) _
    go_enter Tryd.func10, Tryd.ntmps10
    go_wp2_with fail
    go_ret2
    exact ⟨0, true, rfl, fun h => (by cases h), by omega, by omega, hb0⟩
  | m + 1, hm, d, c, cs, room, w, hr1, hr2, h => by
    have ih := weigh_any m (by omega)
    have HIH := Lib.hid ih
    clear ih
    obtain ⟨d', ao, cap, rfl, h1, h2, h3, h4, h5⟩ := card_inv h
    obtain rfl : cs = #[.slice ao c.props.length cap] := Array.toList_inj.1 (by rw [h1])
    clear h h1
    obtain ⟨M, hM⟩ : ∃ M : Nat, m + 1 = M := ⟨_, rfl⟩
    have hne : ((M : Int) == 0) = false := by simp; omega
    have hsub : IntKind.i64.wrap ((M : Int) - 1) = (m : Int) := by rw [IntWalk.i64_in _ (by omega)]; omega
    have hM12 : M ≤ 12 := by omega
    have hb0 : Below w.heap.size w (w.alloc (.cells #[.slice ao c.props.length cap] 24)) := (Below.refl _ w).alloc (Nat.le_refl _) _
    have HF := Lib.hid (show FineC (m + 1) c = (c.props.length ≤ 60 ∧ ∀ p ∈ c.props, FineP m p) from rfl)
    rw [hM] at HF ⊢
    clear hM hm
    by_cases h60 : c.props.length ≤ 60
    · have h60z : ¬ (60 : Int) < (c.props.length : Int) := by omega
      obtain ⟨ps, hps⟩ : ∃ ps, c.props = ps := ⟨_, rfl⟩
      rw [hps] at h2 h5 h60 h60z HF hb0 ⊢
      clear hps h2 h3 h4
      have H60 := Lib.hid h60
      clear h60
      go_enter Tryd.func10, Tryd.ntmps10
      go_wp2_with fail
      go_loopw [1, 8, 9, 10, 11] (fun v1 v8 _ _ _ wr => ∃ (k : Nat) (r : Int), k ≤ ps.length ∧ v8 = .int .i64 k ∧ v1 = .int .i64 r ∧ -20 ≤ r ∧ r ≤ 6000 ∧ Hid (∀ p ∈ ps.take k, FineP m p) ∧ Below w.heap.size w wr ∧ w.heap.size < wr.heap.size ∧ wr.cell? ⟨w.heap.size, 0, none⟩ = some (.slice ao ps.length cap)) (fun _ v8 _ _ _ _ => ps.length - (intOf v8).toNat)
      case atStart => exact ⟨0, room, Nat.zero_le _, rfl, rfl, hr1, hr2, Lib.hid (by simp), hb0, by simp, by simp [go_sem]⟩
      case round =>
        obtain ⟨k, r, hk, rfl, rfl, q1, q2, hF, hb, hz, hc0⟩ := hrel
        by_cases hkl : k < ps.length
        · have hkl2 : (k : Int) < (ps.length : Int) := by omega
          have h60k : k ≤ 60 := by have := H60.out; omega
          obtain ⟨p, hp⟩ := some_at hkl
          obtain ⟨b, off, pa, pc, aa, ac, rfl, hS, hlt, s1, s2, s3, ⟨j1, j2, j3, j4⟩, ⟨i1, i2, i3, i4⟩, k0, k1, k2, k3, k4⟩ := prop_get (h5.old hb) hp
          have hB : w.heap.size ≤ wr.heap.size := hb.size
          have HFT := Lib.hid (fun (hc : FineP m p) => fine_take hF.out hp hc)
          have HFP := Lib.hid (show FineP m p = (p.2.2.1.length ≤ 20 ∧ p.2.2.2.1.size ≤ 6000 ∧ p.2.2.2.2.length ≤ 4 ∧ ∀ a ∈ p.2.2.2.2, FineC m a) from rfl)
          obtain ⟨gs, has⟩ : ∃ gs, p.2.2.2.2 = gs := ⟨_, rfl⟩
          obtain ⟨pl, hpl⟩ : ∃ pl, p.2.2.1 = pl := ⟨_, rfl⟩
          obtain ⟨v, hv⟩ : ∃ v, p.2.2.2.1 = v := ⟨_, rfl⟩
          rw [has] at i1 i4 k4 HFP
          rw [hpl] at k2 HFP
          rw [hv] at k3 HFP
          clear i1 i2 i3 j1 j2 j3 j4 has hpl hv hp s1 s2 s3 hF
          obtain ⟨wo, rfl⟩ : ∃ x : World, x = wr := ⟨_, rfl⟩
          have hbA : Below w.heap.size w (wo.alloc (.cells #[.string p.1, .string p.2.1, .slice pa pl.length pc, .string v, .slice aa gs.length ac] 42)) := hb.alloc hB _
          have hbO : Below wo.heap.size wo (wo.alloc (.cells #[.string p.1, .string p.2.1, .slice pa pl.length pc, .string v, .slice aa gs.length ac] 42)) := (Below.refl _ wo).alloc (Nat.le_refl _) _
          by_cases h20 : pl.length ≤ 20
          case neg =>
            have h20z : (20 : Int) < (pl.length : Int) := by omega
            clear h20
            go_wp2_with fail
            go_ret2
            exact ⟨0, true, rfl, fun h => (by cases h), by omega, by omega, hbA⟩
          have h20z : ¬ (20 : Int) < (pl.length : Int) := by omega
          by_cases h4' : gs.length ≤ 4
          case neg =>
            have h4z : (4 : Int) < (gs.length : Int) := by omega
            clear h4'
            go_wp2_with fail
            go_ret2
            exact ⟨0, true, rfl, fun h => (by cases h), by omega, by omega, hbA⟩
          have h4z : ¬ (4 : Int) < (gs.length : Int) := by omega
          by_cases hvr : (v.size : Int) ≤ r
          case neg =>
            have hvz : r < (v.size : Int) := by omega
            clear hvr
            go_wp2_with fail
            go_ret2
            exact ⟨0, true, rfl, fun h => (by cases h), by omega, by omega, hbA⟩
          have hvz : ¬ r < (v.size : Int) := by omega
          have HFN := Lib.hid (show (∀ a ∈ gs, FineC m a) → FineP m p from fun h => by rw [HFP.out]; exact ⟨h20, by omega, h4', h⟩)
          obtain ⟨r0, hr0⟩ : ∃ r0, r - (v.size : Int) - 20 = r0 := ⟨_, rfl⟩
          have q3 : -20 ≤ r0 := by omega
          have q4 : r0 ≤ 6000 := by omega
          have hsz0 : wo.heap.size < (wo.alloc (.cells #[.string p.1, .string p.2.1, .slice pa pl.length pc, .string v, .slice aa gs.length ac] 42)).heap.size := by simp
          have hcl0 : (wo.alloc (.cells #[.string p.1, .string p.2.1, .slice pa pl.length pc, .string v, .slice aa gs.length ac] 42)).cell? ⟨wo.heap.size, 4, none⟩ = some (.slice aa gs.length ac) := by rw [Lib.cell_of_heap (heap_alloc_new wo _)]; rfl
          have HSC := Lib.hid (And.intro hsz0 hcl0)
          clear hsz0 hcl0
          have Hc0 := Lib.hid hc0
          have H4 := Lib.hid h4'
          have Hz := Lib.hid hz
          clear h20 h4' hvr
          go_wp2_with fail
          clear hc0
          go_loopw [1, 10, 11] (fun v1 v10 v11 wr => ∃ (j : Nat) (r2 : Int), j ≤ gs.length ∧ v10 = .int .i64 j ∧ v1 = .int .i64 r2 ∧ -20 ≤ r2 ∧ r2 ≤ 6000 ∧ Hid (∀ a ∈ gs.take j, FineC m a) ∧ Below w.heap.size w wr ∧ Below wo.heap.size wo wr ∧ wo.heap.size < wr.heap.size ∧ wr.cell? ⟨wo.heap.size, 4, none⟩ = some (.slice aa gs.length ac)) (fun _ v10 _ _ => gs.length - (intOf v10).toNat)
          case atStart => exact ⟨0, r0, Nat.zero_le _, rfl, by rw [← hr0], q3, q4, Lib.hid (by simp), hbA, hbO, HSC.out.1, HSC.out.2⟩
          case round =>
            clear hbA hbO hr0 q3 q4 q1 q2 k0 k1 k2 k3 k4
            obtain ⟨j, r2, hj, rfl, rfl, q1, q2, hF, hb2, hb3, hz2, c4⟩ := hrel
            have h4' := H4.out
            by_cases hjl : j < gs.length
            · have hjl2 : (j : Int) < (gs.length : Int) := by omega
              obtain ⟨a, ha⟩ := some_at hjl
              obtain ⟨b2, off2, v2, rfl, hS2, hlt2, hr, hcv, hv1⟩ := crd_get (i4.old (hb3.mono hB)) ha
              obtain ⟨d2, ao2, cap2, rfl, hve, _, _, _, _⟩ := card_inv hr
              obtain rfl : v2 = .slice ao2 a.props.length cap2 := by simpa using hve
              have HC := Lib.hid (HIH.out _ a #[.slice ao2 a.props.length cap2] r2 wr q1 q2 ((rCrd _).mono _ _ _ _ _ hr (fun b h1 h2 => h2)))
              have HFT2 := Lib.hid (fun (hc : FineC m a) => fine_take hF.out ha hc)
              clear hr hve hF ha
              go_wp2_with fail
              refine HC.out.mono ?_
              rintro e w6 ⟨r3, b3, rfl, hfa, q5, q6, hb6⟩
              have hbw : Below w.heap.size w w6 := hb2.trans (hb6.mono hb2.size)
              have hbo : Below wo.heap.size wo w6 := hb3.trans (hb6.mono hb3.size)
              have hzo : wo.heap.size < w6.heap.size := by have := hb6.size; omega
              have c4' := (hb6.cell (p := ⟨wo.heap.size, 4, none⟩) hz2).trans c4
              cases b3 with
              | true =>
                clear hb6
                go_wp2_with fail
                go_ret2
                exact ⟨0, true, rfl, fun h => (by cases h), by omega, by omega, hbw⟩
              | false =>
                have HF3 := Lib.hid (HFT2.out (hfa rfl))
                clear hb6 hfa c4
                go_wp2_with fail
                go_roundw
                case measure => simp [intOf]; omega
                case rel => exact ⟨j + 1, r3, by omega, by go_num, rfl, q5, q6, HF3, hbw, hbo, hzo, c4'⟩
            · obtain rfl : j = gs.length := by omega
              have hcw := (hb3.cell (p := ⟨w.heap.size, 0, none⟩) Hz.out).trans Hc0.out
              have hzw : w.heap.size < wr.heap.size := by have := Hz.out; omega
              by_cases hneg : r2 < 0
              · go_wp2_with fail
                go_ret2
                exact ⟨0, true, rfl, fun h => (by cases h), by omega, by omega, hb2⟩
              · have HF3 := Lib.hid (HFT.out (HFN.out (by have := hF.out; rwa [List.take_length] at this)))
                go_wp2_with fail
                go_roundw
                case measure => simp [intOf]; omega
                case rel => exact ⟨k + 1, r2, by omega, by go_num, rfl, q1, q2, HF3, hb2, hzw, hcw⟩
        · obtain rfl : k = ps.length := by omega
          have HR := Lib.hid (show FineC M c by rw [HF.out]; exact ⟨H60.out, by have := hF.out; rwa [List.take_length] at this⟩)
          go_wp2_with fail
          go_ret2
          exact ⟨r, false, rfl, fun _ => HR.out, q1, q2, hb⟩
    · have h60z : (60 : Int) < (c.props.length : Int) := by omega
      clear h60
      go_enter Tryd.func10, Tryd.ntmps10
      go_wp2_with fail
      go_ret2
      exact ⟨0, true, rfl, fun h => (by cases h), by omega, by omega, hb0⟩
end Go.Proofs.YtcfbmfcobpfcjaaDoor
