/- A journal's records, as far as one likes. -/
import Derived.Test.YtdebfnlnpfienaaGreatDoorJnDefs
import Derived.RangeFuncNested
import Derived.RangeFuncBound
import Derived.RangeFuncCalls
import Derived.RangeFuncLeaves
import Derived.Shelf.Abstract
import Derived.Shelf.RegionOpen
import Derived.WalkKit
import Derived.OwnWalkIn
import Derived.TacticsInMore
import Derived.LoopNIn
import Derived.LoopIn
namespace Go.Proofs.YtdebfnlnpfienaaGreatDoor
open Go.RowKit Go.Shelf Lift
set_option linter.unusedSimpArgs false
set_option linter.unusedVariables false
attribute [local go_sem] Oper.semAt_some

def encS (x : ByteArray) : Array Value := #[.string x]
theorem vals_in (n : Nat) (ao : Option Addr) (len cap : Nat) (w : World) :
    CallsIn Fence.wide n Tryz.prog 67 #[.slice ao len cap] w fun e w' => e = .returned (.func (.func 96) #[] #[.pointer (some ⟨w.heap.size, 0, none⟩)]) ∧ w' = w.alloc (.cells #[.slice ao len cap] 91) := by
  refine callsIn_of_wp Tryz.func67 rfl trivial ?_ rfl
  simp only [Tryz.ntmps67, List.size_toArray, List.length_cons, List.length_nil, Nat.reduceAdd, Nat.reduceSub, Array.replicate_succ, Array.replicate_zero, List.push_toArray, List.append_toArray, List.nil_append, List.cons_append]
  gi_wp2
  go_ret
  exact ⟨rfl, rfl⟩
set_option maxRecDepth 100000 in
set_option maxHeartbeats 2000000 in
theorem vals1_in (n : Nat) (hn : 1 ≤ n) (lp Bs : Nat) (X : Nat → Prop) (ao : Option Addr) (cap : Nat) (l : List ByteArray) (hlen : l.length ≤ 100000) (J Jx : List ByteArray → World → Prop)
    (W : World) (hY : ∀ pre x W1, J pre W1 → pre.length < l.length → YieldAt Fence.wide (n - 1) Tryz.prog lp (encS x) W1 fun e W' =>
      (e = .returned (.bool true) ∧ J (pre ++ [x]) W' ∧ Kept X W1 W') ∨ (e = .returned (.bool false) ∧ Jx (pre ++ [x]) W'))
    (hBs : W.cell? ⟨Bs, 0, none⟩ = some (.slice ao l.length cap)) (hl : SlAt Rd.str (fun b => ¬ X b) W ao l) (h0 : J [] W) :
    CallsIn Fence.wide n Tryz.prog 96 #[.func (.yield lp) #[] #[], .pointer (some ⟨Bs, 0, none⟩)] W fun e W' => (∃ v, e = .returned v) ∧ ((∃ ys, ys = l ∧ J ys W') ∨ (∃ pre, pre <+: l ∧ Jx pre W')) := by
  refine callsIn_of_wp Tryz.func96 rfl trivial ?_ rfl
  simp only [Tryz.ntmps96, List.size_toArray, List.length_cons, List.length_nil, Nat.reduceAdd, Nat.reduceSub, Array.replicate_succ, Array.replicate_zero, List.push_toArray, List.append_toArray, List.nil_append, List.cons_append]
  gi_wp2
  gi_loopw [7] (fun v wr => ∃ k : Nat, k ≤ l.length ∧ v = .int .i64 k ∧ J (l.take k) wr ∧ Kept X W wr) (fun v _ => l.length - (intOf v).toNat)
  case atStart => exact ⟨0, Nat.zero_le _, rfl, by simpa using h0, Kept.refl _ _⟩
  case round =>
    obtain ⟨k, hk, rfl, hJ, hKp⟩ := hrel
    by_cases hkl : k < l.length
    · obtain ⟨c, hcl⟩ := some_at hkl
      obtain ⟨b, off, rfl, _, hlt, _, hcell⟩ := str_get (hl.kept hKp (fun b hb _ => hb)) hcl
      have hkl2 : (k : Int) < (l.length : Int) := by omega
      obtain ⟨fn, tmps, assign, body, hy, hR⟩ := hY (l.take k) c wr hJ (by rw [List.length_take]; omega)
      rw [← take_at2 hcl] at hR
      dsimp only [encS] at hy
      have hpre : l.take (k + 1) <+: l := List.take_prefix _ _
      gi_wp2
      refine hR.mono ?_
      rintro e W3 (⟨rfl, hJ3, hk3⟩ | ⟨rfl, hJx3⟩)
      · gi_wp2
        go_roundw
        case measure => simp [intOf]; omega
        case rel => exact ⟨k + 1, by omega, by go_num, hJ3, hKp.trans hk3 (fun _ _ h => h) (fun _ _ h => h)⟩
      · gi_wp2
        refine bodyPost_ret (results_none rfl _ _ _) rfl ?_
        exact ⟨⟨_, rfl⟩, .inr ⟨_, hpre, hJx3⟩⟩
    · obtain rfl : k = l.length := by omega
      gi_wp2
      go_end0
      exact ⟨⟨_, rfl⟩, .inl ⟨_, rfl, by rwa [List.take_length] at hJ⟩⟩
theorem vals_stops (n : Nat) (hn : 1 ≤ n) (Bs : Nat) (X : Nat → Prop) (ao : Option Addr) (cap : Nat) (l : List ByteArray) (hlen : l.length ≤ 100000) (w : World) (hBs : Bs < w.heap.size)
    (hc : w.cell? ⟨Bs, 0, none⟩ = some (.slice ao l.length cap)) (hl : SlAt Rd.str (fun b => ¬ X b) w ao l) :
    SeqStopsK Fence.wide n Tryz.prog 96 #[.pointer (some ⟨Bs, 0, none⟩)] encS (Kept X) (fun ys => ys = l) (fun pre => pre <+: l) l.length w := fun lp J Jx W hW _ _ hY h0 =>
  vals1_in n hn lp Bs X ao cap l hlen J Jx W hY ((hW.cell (p := ⟨Bs, 0, none⟩) hBs).trans hc) (hl.kept (Kept.of_below hW (fun _ => False)) (fun _ _ _ h => h)) h0
theorem recs_in {base : Nat} {w : World} {F : Fp} {st : St} {J : JF} {js : JSt} (n : Nat) (hn : 2 ≤ n) (h : JRaw base w F st J js) : CallsIn Fence.wide n Tryz.prog 40 #[.pointer (some ⟨J.b, 0, none⟩)] w
    fun e w' => ∃ ao cap, J.lv = .slice ao js.recs.length cap ∧ e = .returned (.func (.func 96) #[] #[.pointer (some ⟨w.heap.size, 0, none⟩)]) ∧ w' = w.alloc (.cells #[.slice ao js.recs.length cap] 91) := by
  have h1 : 1 ≤ n := by omega
  obtain ⟨c0, c1, c2, c3, c4, c5⟩ := h.cells
  obtain ⟨ao, cap, elv⟩ := h.form
  rw [elv] at c3
  have hJ := h.lt
  have hfV : Fence.wide.fn 67 := trivial
  clear h
  refine callsIn_of_wp Tryz.func40 rfl trivial ?_ rfl
  simp only [Tryz.ntmps40, List.size_toArray, List.length_cons, List.length_nil, Nat.reduceAdd, Nat.reduceSub, Array.replicate_succ, Array.replicate_zero, List.push_toArray, List.append_toArray, List.nil_append, List.cons_append]
  gi_wp2_with (gi_at_call 67; refine (vals_in (n - 1) _ _ _ _).mono ?_; rintro e w' ⟨rfl, rfl⟩)
  go_ret
  exact ⟨ao, cap, elv, rfl, rfl⟩
end Go.Proofs.YtdebfnlnpfienaaGreatDoor
