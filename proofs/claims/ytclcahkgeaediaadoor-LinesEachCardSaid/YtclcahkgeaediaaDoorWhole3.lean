/- Lines, each with those that go on with it: the program's iterator, called with a function. -/
import Derived.Test.YtclcahkgeaediaaDoorEach1
namespace Go.Proofs.YtclcahkgeaediaaDoor
open Go.RowKit Lift
set_option linter.unusedSimpArgs false
set_option linter.unusedVariables false

set_option maxRecDepth 100000 in
set_option maxHeartbeats 8000000 in
theorem whole1_fn (gy : FuncId) (by0 : Value) (hen : ∀ (args : Array Value) (w : World), (callFunc gy args).run Tryd.prog w = .ok (.enter gy args) w) (Bs : Nat) (X : Nat → Prop) (ao : Option Addr) (cap : Nat) (l : List ByteArray) (hlen : l.length ≤ 100000) (hsum : sumB l ≤ 1000000) (hcap : l.length ≤ cap) (hcm : cap ≤ maxLen) (J : List NL → World → Prop)
    (W : World) (hJA : ∀ s A B, J s A → Below A.heap.size A B → J s B)
    (hY : ∀ pre x W1, J pre W1 → pre.length < l.length → Calls Tryd.prog gy #[.int .i64 x.1, .string x.2, by0] W1 fun e W' =>
      e = .returned (.bool true) ∧ J (pre ++ [x]) W' ∧ Kept X W1 W')
    (hBs : W.cell? ⟨Bs, 0, none⟩ = some (.slice ao l.length cap)) (hBn : Bs < W.heap.size) (hBX : ¬ X Bs) (hl : SlAt Rd.str (fun b => ¬ X b) W ao l) (h0 : J [] W) :
    Calls Tryd.prog 26 #[.func (.func gy) #[] #[by0], .pointer (some ⟨Bs, 0, none⟩)] W fun e W' => (∃ v, e = .returned v) ∧ J (numb l l.length) W' ∧ Kept X W W' := by
  have hcm2 : (cap : Int) ≤ 9223372036854775807 := by unfold maxLen at hcm; omega
  have hcs : (l.length : Int) ≤ (cap : Int) := by omega
  go_enter Tryd.func26, Tryd.ntmps26
  go_wp2_with fail
  go_loopw [3] (fun v wr => ∃ a : Nat, v = .int .i64 a ∧ Hid (Begins l a) ∧ a ≤ l.length ∧ J (numb l a) wr ∧ Kept X W wr) (fun v _ => l.length - (intOf v).toNat)
  case atStart => exact ⟨0, rfl, Lib.hid (begins_zero l), by omega, h0, Kept.refl _ _⟩
  case round =>
    obtain ⟨a, rfl, hbg, hal, hJs, hk⟩ := hrel
    have hBs' := (hk.cell (p := ⟨Bs, 0, none⟩) hBn hBX).trans hBs
    have hlr := hl.kept hk (fun b hb _ => hb)
    have hWz := hk.size
    by_cases hlt : a < l.length
    · have hlt2 : (a : Int) < (l.length : Int) := by omega
      obtain ⟨hb2, hgr⟩ := hbg.out.next hlt
      have hgo := (goOn_spec hlt).1
      have HB2 := Lib.hid hb2
      have HGR := Lib.hid hgr
      clear hb2 hgr
      obtain ⟨c0, hc0⟩ := some_at hlt
      obtain ⟨bb, oo, rfl, hS, hbl, _, _⟩ := str_get hlr hc0
      clear hc0
      have hlim : a ≤ 100000 := by omega
      have hDl : (l.drop (a + 1)).length = l.length - (a + 1) := List.length_drop
      have hdr : SlAt Rd.str (· < wr.heap.size) wr (some ⟨bb, oo + (a + 1), none⟩) (l.drop (a + 1)) := by
        have := (SlAt.fromK hlr (a + 1)).here
        simpa [Rd.str] using this
      have hpred : ∀ c ∈ l.drop (a + 1), ∀ w', Below wr.heap.size wr w' → Calls Tryd.prog 28 #[.string c] w' (BelowPost (.bool (!blAt c 0)) w') := fun c hc w' _ => by
        have hcz : c.size ≤ 1000000 := by
          obtain ⟨k, hk⟩ := List.mem_iff_getElem?.1 (List.mem_of_mem_drop hc)
          have h1 := sumB_take hk
          have h2 := sumB_take_le l (k + 1)
          omega
        exact (starts_any c w' hcz).mono fun e w'' ⟨h1, h2⟩ => ⟨h1, by rw [← h2]; exact Below.refl _ _⟩
      have HI := Lib.hid (fun ao' cap' hs => (index_strs ao' cap' (l.drop (a + 1)) 28 (fun s => !blAt s 0) wr hs (by omega) (fun args w => by kernel_rfl) hpred))
      rw [hDl] at HI
      clear hpred
      have ha1 : a + 1 ≤ 100001 := by omega
      have ha2 : (a : Int) + 1 ≤ (l.length : Int) := by omega
      have ha3 : (a : Int) + 1 ≤ (cap : Int) := by omega
      have hq : goOn l a = if idxP (fun s => !blAt s 0) 0 (l.drop (a + 1)) < 0 then l.length - a - 1 else (idxP (fun s => !blAt s 0) 0 (l.drop (a + 1))).toNat := rfl
      have hqc := idxP_cases (fun s => !blAt s 0) (l.drop (a + 1)) 0
      have hqz : idxP (fun s => !blAt s 0) 0 (l.drop (a + 1)) = -1 ∨ 0 ≤ idxP (fun s => !blAt s 0) 0 (l.drop (a + 1)) := by
        rcases hqc with ⟨h, _⟩ | ⟨i, h, _⟩
        · exact .inl h
        · right; rw [h]; omega
      clear hqc
      generalize idxP (fun s => !blAt s 0) 0 (l.drop (a + 1)) = q at hq hqz HI
      have HQ := Lib.hid hq
      clear hq
      have HDR := Lib.hid hdr
      clear hdr
      by_cases hce : cap = a + 1
      case' pos =>
        have hce2 : (cap : Int) = (a : Int) + 1 := by omega
        have HN := Lib.hid (show SlAt Rd.str (· < wr.heap.size) wr (some ⟨bb, oo, none⟩) (l.drop (a + 1)) from .inl (by rw [List.drop_eq_nil_iff]; omega))
        clear hce
        go_wp2_with fail
        refine (HI.out _ _ HN.out).mono ?_
        clear HN
      case' neg =>
        have hce2 : ¬ (cap : Int) = (a : Int) + 1 := by omega
        go_wp2_with fail
        refine (HI.out _ _ HDR.out).mono ?_
      all_goals
        rintro e w2 ⟨rfl, hb2⟩
        have hk2 := hk.step hb2
        have hJ2 : J (numb l a) w2 := hJA _ wr w2 hJs hb2
        have hBs2 := (hk2.cell (p := ⟨Bs, 0, none⟩) hBn hBX).trans hBs
        have hl2 := hl.kept hk2 (fun b hb _ => hb)
        clear HI HDR hb2 hJs hBs' hlr hce2
        obtain ⟨g, hg⟩ : ∃ g, goOn l a = g := ⟨_, rfl⟩
        rw [hg] at hgo HB2 HGR HQ
        clear hg
        have hgl : ((l.drop a).take (g + 1)).length = g + 1 := by rw [List.length_take, List.length_drop]; omega
        have hjl : SlAt Rd.str (· < w2.heap.size) w2 (some ⟨bb, oo + a, none⟩) ((l.drop a).take (g + 1)) := by
          have := (SlAt.takeK (SlAt.fromK hl2 a) (g + 1)).here
          simpa [Rd.str] using this
        have HJ := Lib.hid (fun cap' hc => (join_any (some ⟨bb, oo + a, none⟩) cap' ((l.drop a).take (g + 1)) ⟨#[]⟩ w2 hjl (by rw [hgl]; omega) (by decide) (Nat.le_trans (sumB_takes l a (g + 1)) (by omega)) hc))
        rw [hgl] at HJ
        have hjb : (⟨(joinB (⟨#[]⟩ : ByteArray).data.toList ((l.drop a).take (g + 1))).toArray⟩ : ByteArray) = catB ((l.drop a).take (g + 1)) := rfl
        rw [hjb] at HJ
        clear hjl hgl hjb
        have hYY := hY (numb l a) (a + 1, catB ((l.drop a).take (g + 1)))
        rw [← HGR.out] at hYY
        generalize catB ((l.drop a).take (g + 1)) = x at HJ hYY HGR
        have HY := Lib.hid hYY
        clear hYY
        have hpl : (numb l a).length < l.length := Nat.lt_of_le_of_lt (numb_len l a) hlt
        have hac : (a : Int) + 1 + (g : Int) ≤ (cap : Int) := by omega
        have hac2 : (a : Int) < (cap : Int) := by omega
        have hglim : g ≤ 100000 := by omega
        have hac3 : ¬ cap = a := by omega
        rcases hqz with rfl | hq0
        case' inl =>
          have hgv : (l.length : Int) - (a : Int) - 1 = (g : Int) := by have := HQ.out; rw [if_pos (by omega)] at this; omega
        case' inr =>
          obtain ⟨q', rfl⟩ := Int.eq_ofNat_of_zero_le hq0
          obtain rfl : g = q' := by have := HQ.out; rw [if_neg (by omega)] at this; simp at this; omega
          have hqn : decide ((g : Int) < 0) = false := by simp
          clear hq0
        all_goals
          clear HQ
          have hlen2 : a + 1 + g - a = g + 1 := by omega
          go_wp2_with fail
          refine (HJ.out _ (by omega)).mono ?_
          rintro e w3 ⟨rfl, hb3⟩
          have hk3 := hk2.step hb3
          have hJ3 : J (numb l a) w3 := hJA _ w2 w3 hJ2 hb3
          have HR := Lib.hid (HY.out w3 hJ3 hpl)
          clear HJ HY hb3 hJ2 hJ3 hlen2
          rw [show ((a + 1 : Nat) : Int) = (a : Int) + 1 by omega] at HR
          go_wp2_with fail
          refine HR.out.mono ?_
          rintro e W4 ⟨rfl, hJ4, hk4⟩
          go_wp2_with fail
          go_roundw
          case measure => simp [intOf]; omega
          case rel => exact ⟨a + 1 + g, by congr 1; omega, HB2, by omega, hJ4, hk3.trans hk4 (fun _ _ h => h) (fun k hk h => h)⟩
    · obtain rfl : a = l.length := by omega
      clear hbg
      have hlt2 : ¬ (l.length : Int) < (l.length : Int) := by omega
      go_wp2_with fail
      go_end0
      exact ⟨⟨_, rfl⟩, hJs, hk⟩
end Go.Proofs.YtclcahkgeaediaaDoor
