/- Lines, each with those that go on with it: the program's iterator. -/
import Derived.Test.YtclcahkgeaediaaDoorWhole
import Derived.RangeFuncNested
import Derived.RangeFuncBound
import Derived.RangeFuncCalls
import Derived.RangeFuncLeaves
import Derived.Shelf.Abstract
import Derived.Shelf.RegionOpen
import Derived.WalkKit
import Derived.OwnWalkIn
import Derived.TacticsInMore
import Derived.LoopNIn
import Derived.LoopIn
namespace Go.Proofs.YtclcahkgeaediaaDoor
open Go.RowKit Go.Shelf Lift
set_option linter.unusedSimpArgs false
set_option linter.unusedVariables false
attribute [local go_sem] Oper.semAt_some

theorem SlAt.fromK {α : Type} {r : Rd α} {S : Nat → Prop} {w : World} {b off : Nat} {l : List α} (h : SlAt r S w (some ⟨b, off, none⟩) l) (k : Nat) : SlAt r S w (some ⟨b, off + k * r.n, none⟩) (l.drop k) := by
  rcases h with rfl | ⟨b', off', e, h1, h2, h3⟩
  · exact .inl (by simp)
  · injection e with e; injection e with e1 e2
    subst e1; subst e2
    refine .inr ⟨b, off + k * r.n, rfl, h1, h2, fun i c hi => ?_⟩
    rw [List.getElem?_drop] at hi
    obtain ⟨cs, g1, g2⟩ := h3 _ _ hi
    exact ⟨cs, g1, by rw [show off + k * r.n + i * r.n = off + (k + i) * r.n by rw [Nat.add_mul]; omega]; exact g2⟩
theorem SlAt.takeK {α : Type} {r : Rd α} {S : Nat → Prop} {w : World} {ao : Option Addr} {l : List α} (h : SlAt r S w ao l) (k : Nat) : SlAt r S w ao (l.take k) := by
  rcases h with rfl | ⟨b, off, rfl, h1, h2, h3⟩
  · exact .inl (by simp)
  · exact .inr ⟨b, off, rfl, h1, h2, fun i c hi => h3 i c (by rw [List.getElem?_take] at hi; split at hi; exact hi; cases hi)⟩
theorem grown_of_below {W W' : World} (h : Below W.heap.size W W') : W.grownBy W' none := ⟨h.os, h.tape, h.output, h.size, fun k hk _ => h.block k hk⟩
def encNL (x : NL) : Array Value := #[.int .i64 x.1, .string x.2]
theorem sumB_takes (l : List ByteArray) (a j : Nat) : sumB ((l.drop a).take j) ≤ sumB l := Nat.le_trans (sumB_take_le _ _) (sumB_drop_le _ _)

set_option maxRecDepth 100000 in
set_option maxHeartbeats 8000000 in
theorem whole1_in (n : Nat) (hn : 1 ≤ n) (lp Bs : Nat) (X : Nat → Prop) (ao : Option Addr) (cap : Nat) (l : List ByteArray) (hlen : l.length ≤ 100000) (hsum : sumB l ≤ 1000000) (hcap : l.length ≤ cap) (hcm : cap ≤ maxLen) (J Jx : List NL → World → Prop)
    (W : World) (hJA : AbidesFrom W.heap.size J)
    (hY : ∀ pre x W1, J pre W1 → pre.length < l.length → YieldAt Fence.wide (n - 1) Tryd.prog lp (encNL x) W1 fun e W' =>
      (e = .returned (.bool true) ∧ J (pre ++ [x]) W' ∧ Kept X W1 W') ∨ (e = .returned (.bool false) ∧ Jx (pre ++ [x]) W'))
    (hBs : W.cell? ⟨Bs, 0, none⟩ = some (.slice ao l.length cap)) (hBn : Bs < W.heap.size) (hBX : ¬ X Bs) (hl : SlAt Rd.str (fun b => ¬ X b) W ao l) (h0 : J [] W) :
    CallsIn Fence.wide n Tryd.prog 26 #[.func (.yield lp) #[] #[], .pointer (some ⟨Bs, 0, none⟩)] W fun e W' => (∃ v, e = .returned v) ∧
      ((∃ ys, ys = numb l l.length ∧ J ys W') ∨ (∃ pre, pre <+: numb l l.length ∧ Jx pre W')) := by
  have hfK : Fence.wide.fn 27 := trivial
  have hfJ : Fence.wide.fn 30 := trivial
  have hcm2 : (cap : Int) ≤ 9223372036854775807 := by unfold maxLen at hcm; omega
  have hcs : (l.length : Int) ≤ (cap : Int) := by omega
  refine callsIn_of_wp Tryd.func26 rfl trivial ?_ rfl
  simp only [Tryd.ntmps26, List.size_toArray, List.length_cons, List.length_nil, Nat.reduceAdd, Nat.reduceSub, Array.replicate_succ, Array.replicate_zero, List.push_toArray, List.append_toArray, List.nil_append, List.cons_append]
  gi_wp2
  gi_loopw [3] (fun v wr => ∃ a : Nat, v = .int .i64 a ∧ Hid (Begins l a) ∧ a ≤ l.length ∧ J (numb l a) wr ∧ Kept X W wr) (fun v _ => l.length - (intOf v).toNat)
  case atStart => exact ⟨0, rfl, Lib.hid (begins_zero l), by omega, h0, Kept.refl _ _⟩
  case round =>
    obtain ⟨a, rfl, hbg, hal, hJs, hk⟩ := hrel
    have hBs' := (hk.cell (p := ⟨Bs, 0, none⟩) hBn hBX).trans hBs
    have hlr := hl.kept hk (fun b hb _ => hb)
    have hWz := hk.size
    by_cases hlt : a < l.length
    · have hlt2 : (a : Int) < (l.length : Int) := by omega
      obtain ⟨hb2, hgr⟩ := hbg.out.next hlt
      have hgo := (goOn_spec hlt).1
      have HB2 := Lib.hid hb2
      have HGR := Lib.hid hgr
      clear hb2 hgr
      obtain ⟨c0, hc0⟩ := some_at hlt
      obtain ⟨bb, oo, rfl, hS, hbl, _, _⟩ := str_get hlr hc0
      clear hc0
      have hlim : a ≤ 100000 := by omega
      have hDl : (l.drop (a + 1)).length = l.length - (a + 1) := List.length_drop
      have hdr : SlAt Rd.str (· < wr.heap.size) wr (some ⟨bb, oo + (a + 1), none⟩) (l.drop (a + 1)) := by
        have := (SlAt.fromK hlr (a + 1)).here
        simpa [Rd.str] using this
      have hpred : ∀ c ∈ l.drop (a + 1), ∀ w', Below wr.heap.size wr w' → Calls Tryd.prog 28 #[.string c] w' (BelowPost (.bool (!blAt c 0)) w') := fun c hc w' _ => by
        have hcz : c.size ≤ 1000000 := by
          obtain ⟨k, hk⟩ := List.mem_iff_getElem?.1 (List.mem_of_mem_drop hc)
          have h1 := sumB_take hk
          have h2 := sumB_take_le l (k + 1)
          omega
        exact (starts_any c w' hcz).mono fun e w'' ⟨h1, h2⟩ => ⟨h1, by rw [← h2]; exact Below.refl _ _⟩
      have HI := Lib.hid (fun ao' cap' hs => callsIn_wide (n := n - 1).2 (index_strs ao' cap' (l.drop (a + 1)) 28 (fun s => !blAt s 0) wr hs (by omega) (fun args w => by kernel_rfl) hpred))
      rw [hDl] at HI
      clear hpred
      have ha1 : a + 1 ≤ 100001 := by omega
      have ha2 : (a : Int) + 1 ≤ (l.length : Int) := by omega
      have ha3 : (a : Int) + 1 ≤ (cap : Int) := by omega
      have hq : goOn l a = if idxP (fun s => !blAt s 0) 0 (l.drop (a + 1)) < 0 then l.length - a - 1 else (idxP (fun s => !blAt s 0) 0 (l.drop (a + 1))).toNat := rfl
      have hqc := idxP_cases (fun s => !blAt s 0) (l.drop (a + 1)) 0
      have hqz : idxP (fun s => !blAt s 0) 0 (l.drop (a + 1)) = -1 ∨ 0 ≤ idxP (fun s => !blAt s 0) 0 (l.drop (a + 1)) := by
        rcases hqc with ⟨h, _⟩ | ⟨i, h, _⟩
        · exact .inl h
        · right; rw [h]; omega
      clear hqc
      generalize idxP (fun s => !blAt s 0) 0 (l.drop (a + 1)) = q at hq hqz HI
      have HQ := Lib.hid hq
      clear hq
      have HDR := Lib.hid hdr
      clear hdr
      by_cases hce : cap = a + 1
      case' pos =>
        have hce2 : (cap : Int) = (a : Int) + 1 := by omega
        have HN := Lib.hid (show SlAt Rd.str (· < wr.heap.size) wr (some ⟨bb, oo, none⟩) (l.drop (a + 1)) from .inl (by rw [List.drop_eq_nil_iff]; omega))
        clear hce
        gi_wp2
        refine (HI.out _ _ HN.out).mono ?_
        clear HN
      case' neg =>
        have hce2 : ¬ (cap : Int) = (a : Int) + 1 := by omega
        gi_wp2
        refine (HI.out _ _ HDR.out).mono ?_
      all_goals
        rintro e w2 ⟨rfl, hb2⟩
        have hk2 := hk.step hb2
        have hJ2 : J (numb l a) w2 := hJA _ wr w2 none hJs (grown_of_below hb2) (fun r e => by cases e)
        have hBs2 := (hk2.cell (p := ⟨Bs, 0, none⟩) hBn hBX).trans hBs
        have hl2 := hl.kept hk2 (fun b hb _ => hb)
        clear HI HDR hb2 hJs hBs' hlr hce2
        obtain ⟨g, hg⟩ : ∃ g, goOn l a = g := ⟨_, rfl⟩
        rw [hg] at hgo HB2 HGR HQ
        clear hg
        have hgl : ((l.drop a).take (g + 1)).length = g + 1 := by rw [List.length_take, List.length_drop]; omega
        have hjl : SlAt Rd.str (· < w2.heap.size) w2 (some ⟨bb, oo + a, none⟩) ((l.drop a).take (g + 1)) := by
          have := (SlAt.takeK (SlAt.fromK hl2 a) (g + 1)).here
          simpa [Rd.str] using this
        have HJ := Lib.hid (fun cap' hc => callsIn_wide (n := n - 1).2 (join_any (some ⟨bb, oo + a, none⟩) cap' ((l.drop a).take (g + 1)) ⟨#[]⟩ w2 hjl (by rw [hgl]; omega) (by decide) (Nat.le_trans (sumB_takes l a (g + 1)) (by omega)) hc))
        rw [hgl] at HJ
        have hjb : (⟨(joinB (⟨#[]⟩ : ByteArray).data.toList ((l.drop a).take (g + 1))).toArray⟩ : ByteArray) = catB ((l.drop a).take (g + 1)) := rfl
        rw [hjb] at HJ
        clear hjl hgl hjb
        have hYY := hY (numb l a) (a + 1, catB ((l.drop a).take (g + 1)))
        rw [← HGR.out] at hYY
        generalize catB ((l.drop a).take (g + 1)) = x at HJ hYY HGR
        have HY := Lib.hid hYY
        clear hYY
        have hpl : (numb l a).length < l.length := Nat.lt_of_le_of_lt (numb_len l a) hlt
        have hac : (a : Int) + 1 + (g : Int) ≤ (cap : Int) := by omega
        have hac2 : (a : Int) < (cap : Int) := by omega
        have hglim : g ≤ 100000 := by omega
        have hac3 : ¬ cap = a := by omega
        rcases hqz with rfl | hq0
        case' inl =>
          have hgv : (l.length : Int) - (a : Int) - 1 = (g : Int) := by have := HQ.out; rw [if_pos (by omega)] at this; omega
        case' inr =>
          obtain ⟨q', rfl⟩ := Int.eq_ofNat_of_zero_le hq0
          obtain rfl : g = q' := by have := HQ.out; rw [if_neg (by omega)] at this; simp at this; omega
          have hqn : decide ((g : Int) < 0) = false := by simp
          clear hq0
        all_goals
          clear HQ
          have hlen2 : a + 1 + g - a = g + 1 := by omega
          gi_wp2
          refine (HJ.out _ (by omega)).mono ?_
          rintro e w3 ⟨rfl, hb3⟩
          have hk3 := hk2.step hb3
          have hJ3 : J (numb l a) w3 := hJA _ w2 w3 none hJ2 (grown_of_below hb3) (fun r e => by cases e)
          obtain ⟨fn, tmps, assign, body, hy, hR⟩ := HY.out w3 hJ3 hpl
          clear HJ HY hb3 hJ2 hJ3 hlen2
          dsimp only [encNL] at hy
          rw [show ((a + 1 : Nat) : Int) = (a : Int) + 1 by omega] at hy
          gi_wp2
          refine hR.mono ?_
          rintro e W4 (⟨rfl, hJ4, hk4⟩ | ⟨rfl, hJx⟩)
          · gi_wp2
            go_roundw
            case measure => simp [intOf]; omega
            case rel => exact ⟨a + 1 + g, by congr 1; omega, HB2, by omega, hJ4, hk3.trans hk4 (fun _ _ h => h) (fun k hk h => h)⟩
          · gi_wp2
            refine bodyPost_ret (results_none rfl _ _ _) rfl ?_
            exact ⟨⟨_, rfl⟩, .inr ⟨_, Begins.initial _ _ (Nat.le_refl _) HB2.out, hJx⟩⟩
    · obtain rfl : a = l.length := by omega
      clear hbg
      have hlt2 : ¬ (l.length : Int) < (l.length : Int) := by omega
      gi_wp2
      go_end0
      exact ⟨⟨_, rfl⟩, .inl hJs⟩
end Go.Proofs.YtclcahkgeaediaaDoor
