/- An item's last change: the program's, by a loop over slices.Backward; the reference's. -/
import Derived.Test.YtkmkedmefhmnaaaLChk
import Derived.RangeFuncNested
import Derived.RangeFuncBound
import Derived.RangeFuncCalls
import Derived.RangeFuncLeaves
import Derived.Shelf.Abstract
import Derived.Shelf.RegionOpen
import Derived.WalkKit
import Derived.OwnWalkIn
import Derived.TacticsInMore
import Derived.LoopNIn
import Derived.LoopIn
namespace Go.Proofs.Ytkmkedmefhmnaaa
open Go.RowKit Go.Shelf Lift
set_option linter.unusedSimpArgs false
set_option linter.unusedVariables false
attribute [local go_sem] Oper.semAt_some

abbrev YC := Int × Chg
def yc (l : List Chg) (t : Nat) : YC := (((l.length - 1 - t : Nat) : Int), (l[l.length - 1 - t]?).getD (0, 0, 0))
def upto (l : List Chg) (k : Nat) : List YC := (List.range k).map (yc l)
theorem upto_succ (l : List Chg) (k : Nat) : upto l (k + 1) = upto l k ++ [yc l k] := by simp [upto, List.range_succ]
theorem upto_length (l : List Chg) (k : Nat) : (upto l k).length = k := by simp [upto]
theorem upto_take (l : List Chg) {k : Nat} (hk : k ≤ l.length) : upto l k <+: upto l l.length := by
  obtain ⟨m, hm⟩ : ∃ m, l.length = k + m := ⟨l.length - k, by omega⟩
  refine ⟨(List.range m).map (fun i => yc l (k + i)), ?_⟩
  unfold upto
  conv => rhs; rw [hm, List.range_add]
  simp [Function.comp_def]
def encC (x : YC) : Array Value := #[.int .i64 x.1, .agg #[.int .i64 x.2.1, .int .i64 x.2.2.1, .int .i64 x.2.2.2]]

theorem back_in (n : Nat) (ao : Option Addr) (len cap : Nat) (w : World) :
    CallsIn Fence.wide n Try.prog 21 #[.slice ao len cap] w fun e w' => e = .returned (.func (.func 27) #[] #[.pointer (some ⟨w.heap.size, 0, none⟩)]) ∧ w' = w.alloc (.cells #[.slice ao len cap] 22) := by
  refine callsIn_of_wp Try.func21 rfl trivial ?_ rfl
  simp only [Try.ntmps21, List.size_toArray, List.length_cons, List.length_nil, Nat.reduceAdd, Nat.reduceSub, Array.replicate_succ, Array.replicate_zero, List.push_toArray, List.append_toArray, List.nil_append, List.cons_append]
  gi_wp2
  go_ret
  exact ⟨rfl, rfl⟩

set_option maxRecDepth 100000 in
set_option maxHeartbeats 2000000 in
theorem back1_in (n : Nat) (hn : 1 ≤ n) (lp Bs n₀ : Nat) (ao : Option Addr) (cap : Nat) (l : List Chg) (hlen : l.length ≤ 100000) (J Jx : List YC → World → Prop)
    (hY : ∀ pre x W, J pre W → pre.length < l.length → YieldAt Fence.wide (n - 1) Try.prog lp (encC x) W fun e W' =>
      (e = .returned (.bool true) ∧ J (pre ++ [x]) W' ∧ Below n₀ W W') ∨ (e = .returned (.bool false) ∧ Jx (pre ++ [x]) W'))
    (W : World) (hBs : W.cell? ⟨Bs, 0, none⟩ = some (.slice ao l.length cap)) (hBn : Bs < n₀) (hl : SlAt rChg (· < n₀) W ao l) (h0 : J [] W) :
    CallsIn Fence.wide n Try.prog 27 #[.func (.yield lp) #[] #[], .pointer (some ⟨Bs, 0, none⟩)] W fun e W' => (∃ v, e = .returned v) ∧
      ((∃ ys, ys = upto l l.length ∧ J ys W') ∨ (∃ pre, pre <+: upto l l.length ∧ Jx pre W')) := by
  refine callsIn_of_wp Try.func27 rfl trivial ?_ rfl
  simp only [Try.ntmps27, List.size_toArray, List.length_cons, List.length_nil, Nat.reduceAdd, Nat.reduceSub, Array.replicate_succ, Array.replicate_zero, List.push_toArray, List.append_toArray, List.nil_append, List.cons_append]
  gi_wp2
  gi_loopw [3] (fun v wr => ∃ (m : Nat) (i : Int), m ≤ l.length ∧ v = .int .i64 i ∧ i = (m : Int) - 1 ∧ J (upto l (l.length - m)) wr ∧ Below n₀ W wr)
    (fun v _ => (intOf v + 1).toNat)
  case atStart => exact ⟨l.length, _, Nat.le_refl _, rfl, rfl, by rw [Nat.sub_self]; exact h0, Below.refl _ _⟩
  case round =>
    obtain ⟨m, i, hm, rfl, hi, hJs, hnx⟩ := hrel
    have hBs' := (hnx.cell (p := ⟨Bs, 0, none⟩) hBn).trans hBs
    cases m with
    | zero =>
      obtain rfl : i = -1 := by omega
      clear hi
      gi_wp2
      go_end0
      exact ⟨⟨_, rfl⟩, .inl ⟨_, rfl, by simpa using hJs⟩⟩
    | succ j =>
      obtain rfl : i = (j : Int) := by omega
      clear hi
      obtain ⟨c, hcl⟩ := some_at (l := l) (k := j) (by omega)
      obtain ⟨b1, o1, rfl, hb1, x1, x2, x3⟩ := chg_get (hl.old hnx) hcl
      have hx : yc l (l.length - (j + 1)) = ((j : Int), c) := by
        unfold yc
        rw [show l.length - 1 - (l.length - (j + 1)) = j by omega, hcl]; rfl
      obtain ⟨fn, tmps, assign, body, hy, hR⟩ := hY _ (yc l (l.length - (j + 1))) wr hJs (by rw [upto_length]; omega)
      rw [← upto_succ, show l.length - (j + 1) + 1 = l.length - j by omega] at hR
      rw [hx] at hy
      dsimp only [encC] at hy
      have hj1 : j < l.length := by omega
      have hj2 : (j : Int) < (l.length : Int) := by omega
      have hlim : j ≤ 100000 := by omega
      gi_wp2
      refine hR.mono ?_
      rintro e W3 (⟨rfl, hJ3, hk3⟩ | ⟨rfl, hJx3⟩)
      · gi_wp2
        go_roundw
        case rel => exact ⟨j, _, by omega, rfl, rfl, hJ3, hnx.trans hk3⟩
        case measure => simp [intOf]
      · gi_wp2
        refine bodyPost_ret (results_none rfl _ _ _) rfl ?_
        exact ⟨⟨_, rfl⟩, .inr ⟨_, upto_take l (by omega), hJx3⟩⟩

theorem back_stops (n : Nat) (hn : 1 ≤ n) (Bs n₀ : Nat) (ao : Option Addr) (cap : Nat) (l : List Chg) (hlen : l.length ≤ 100000) (w : World) (hBs : Bs < n₀) (hn₀ : n₀ ≤ w.heap.size)
    (hc : w.cell? ⟨Bs, 0, none⟩ = some (.slice ao l.length cap)) (hl : SlAt rChg (· < n₀) w ao l) :
    SeqStopsK Fence.wide n Try.prog 27 #[.pointer (some ⟨Bs, 0, none⟩)] encC (Below n₀) (fun ys => ys = upto l l.length) (fun pre => pre <+: upto l l.length) l.length w := fun lp J Jx W hW _ _ hY h0 =>
  back1_in n hn lp Bs n₀ ao cap l hlen J Jx hY W ((hW.cell (p := ⟨Bs, 0, none⟩) (Nat.lt_of_lt_of_le hBs hn₀)).trans hc) hBs (hl.old (hW.mono hn₀)) h0

/-- An item's last change. -/
def lastL (l : List Chg) (id : Int) : Option Chg := l.reverse.find? fun c => c.2.1 == id
def resultL (l : List Chg) (id : Int) : Value := .tuple #[.agg #[.int .i64 ((lastL l id).getD (0, 0, 0)).1, .int .i64 ((lastL l id).getD (0, 0, 0)).2.1, .int .i64 ((lastL l id).getD (0, 0, 0)).2.2], .bool (lastL l id).isSome]

theorem new_at (W : World) (o : Obj) (k : Nat) (h : k = W.heap.size) : (W.alloc o).heap[k]? = some o := by subst h; exact World.alloc_heap_new W o
theorem old_at {W : World} {o x : Obj} {k : Nat} (h : W.heap[k]? = some x) : (W.alloc o).heap[k]? = some x := (Below.heap_alloc W o k (Array.getElem?_eq_some_iff.1 h).1).trans h
theorem cell_of {W : World} {b k : Nat} {cs : Array Value} {e : TypeId} {v : Value} (h : W.heap[b]? = some (.cells cs e (0, 0))) (hk : cs[k]? = some v) : W.cell? ⟨b, k, none⟩ = some v := by simp [World.cell?, h, hk]
theorem free_of {W : World} {b k : Nat} {cs : Array Value} {e : TypeId} (h : W.heap[b]? = some (.cells cs e (0, 0))) : W.frozen? ⟨b, k, none⟩ = false := by simp [World.frozen?, h]
theorem last_find {l : List Chg} {id : Int} {pre : List YC} {x : YC} (h : pre ++ [x] <+: upto l l.length) (hp : ∀ y ∈ pre, y.2.2.1 ≠ id) (hx : x.2.2.1 = id) : lastL l id = some x.2 := by
  have hm : (upto l l.length).map (·.2) = l.reverse := by
    apply List.ext_getElem
    · simp [upto]
    · intro i h1 h2
      simp at h2
      simp [upto, yc, List.getElem_reverse]
      rw [List.getElem?_eq_getElem (by omega)]; rfl
  obtain ⟨r, hr⟩ := h
  unfold lastL
  rw [← hm, ← hr]
  simp only [List.map_append, List.map_cons, List.map_nil, List.append_assoc]
  rw [List.find?_append, List.find?_eq_none.2 (fun c hc => by obtain ⟨y, hy, rfl⟩ := List.mem_map.1 hc; simpa using hp y hy)]
  simp [hx]
theorem last_none {l : List Chg} {id : Int} (hp : ∀ y ∈ upto l l.length, y.2.2.1 ≠ id) : lastL l id = none := by
  unfold lastL
  refine List.find?_eq_none.2 (fun c hc => ?_)
  obtain ⟨k, hk, rfl⟩ := List.getElem_of_mem (List.mem_reverse.1 hc)
  have := hp (yc l (l.length - 1 - k)) (List.mem_map.2 ⟨_, by simp; omega, rfl⟩)
  unfold yc at this
  rw [show l.length - 1 - (l.length - 1 - k) = k by omega, List.getElem?_eq_getElem hk] at this
  simpa using this

theorem last_in (n : Nat) (hn : 4 ≤ n) (ao : Option Addr) (cap : Nat) (l : List Chg) (id : Int) (w : World) (hl : SlAt rChg (· < w.heap.size) w ao l) (hlen : l.length ≤ 100000) :
    CallsIn Fence.wide n Try.prog 13 #[.slice ao l.length cap, .int .i64 id] w fun e W' => e = .returned (resultL l id) ∧ Below w.heap.size w W' := by
  have h1 : 1 ≤ n := by omega
  refine callsIn_of_wp_marks Try.func13 rfl trivial ?_ rfl
  simp only [Try.ntmps13, List.size_toArray, List.length_cons, List.length_nil, Nat.reduceAdd, Nat.reduceSub, Array.replicate_succ, Array.replicate_zero, List.push_toArray, List.append_toArray, List.nil_append, List.cons_append]
  have hfK : Fence.wide.fn 21 := trivial
  gi_wp2_with (gi_at_call 21; refine (back_in (n - 1) _ _ _ _).mono ?_; rintro e w' ⟨rfl, rfl⟩)
  obtain ⟨W0, hW0⟩ : ∃ W0, ((((w.alloc (.cells #[.int .i64 id] 3)).alloc (.cells #[.int .i64 0, .int .i64 0, .int .i64 0] 28)).alloc (.cells #[.bool false] 4)).alloc (.cells #[.slice ao l.length cap] 22)) = W0 := ⟨_, rfl⟩
  have hsz : W0.heap.size = w.heap.size + 4 := by subst hW0; simp
  have hB0 : Below w.heap.size w W0 := by subst hW0; exact ((((Below.refl _ w).alloc (Nat.le_refl _) _).alloc (by simp) _).alloc (by simp; omega) _).alloc (by simp; omega) _
  have e0 : W0.heap[w.heap.size]? = some (.cells #[.int .i64 id] 3 (0, 0)) := by subst hW0; exact old_at (old_at (old_at (new_at _ _ _ rfl)))
  have e1 : W0.heap[w.heap.size + 1]? = some (.cells #[.int .i64 0, .int .i64 0, .int .i64 0] 28 (0, 0)) := by subst hW0; exact old_at (old_at (new_at _ _ _ (by simp)))
  have e2 : W0.heap[w.heap.size + 1 + 1]? = some (.cells #[.bool false] 4 (0, 0)) := by subst hW0; exact old_at (new_at _ _ _ (by simp))
  have e3 : W0.heap[w.heap.size + 1 + 1 + 1]? = some (.cells #[.slice ao l.length cap] 22 (0, 0)) := by subst hW0; exact new_at _ _ _ (by simp)
  rw [hW0]
  clear hW0
  have hlt : ∀ k, k ≤ w.heap.size + 1 + 1 + 1 → k < W0.heap.size := fun k hk => by omega
  refine wpIn_rangeFunc_ownH (F := Fence.wide) rfl h1 (gf := 27) (lb := #[.pointer (some ⟨w.heap.size + 1 + 1 + 1, 0, none⟩)]) rfl trivial (enters_of Try.func27 (by kernel_rfl) rfl)
    (back_stops (n - 1) (by omega) (w.heap.size + 1 + 1 + 1) W0.heap.size ao cap l hlen W0 (hlt _ (Nat.le_refl _)) (Nat.le_refl _) (cell_of e3 rfl) ((hl.old hB0).mono (fun b hb _ => by omega))) belowK_t (belowK_b (Nat.le_refl _)) (Below.refl _ _) (fun _ => rfl)
    (fun pre W => (∀ y ∈ pre, y.2.2.1 ≠ id) ∧ Below W0.heap.size W0 W)
    (fun c pre W => (c = .ret ∧ ∃ pre0 x, pre = pre0 ++ [x] ∧ (∀ y ∈ pre0, y.2.2.1 ≠ id) ∧ x.2.2.1 = id ∧ W.cell? ⟨w.heap.size + 1, 0, none⟩ = some (.int .i64 x.2.1) ∧ W.cell? ⟨w.heap.size + 1, 1, none⟩ = some (.int .i64 x.2.2.1) ∧ W.cell? ⟨w.heap.size + 1, 2, none⟩ = some (.int .i64 x.2.2.2) ∧ W.cell? ⟨w.heap.size + 1 + 1, 0, none⟩ = some (.bool true)) ∧ Below w.heap.size w W)
    (OwnFrom.and (ownFrom_pure _ _) (ownFrom_below (Nat.le_refl _) (Nat.le_refl _)))
    (fun c => OwnFrom.and (Own.from (fun s A B row hs hg hr => by
      obtain ⟨h1, pre0, x, h2, h3, h4, h5, h6, h7, h8⟩ := hs
      exact ⟨h1, pre0, x, h2, h3, h4, cell_kept h5 hg hr, cell_kept h6 hg hr, cell_kept h7 hg hr, cell_kept h8 hg hr⟩) _) (ownFrom_below (Nat.le_refl _) (by omega)))
    ⟨by simp, Below.refl _ _⟩
    (fun x a' W => ∃ Bx, W0.heap.size ≤ Bx ∧ W.cell? ⟨Bx, 0, none⟩ = some (.int .i64 x.2.1) ∧ W.cell? ⟨Bx, 1, none⟩ = some (.int .i64 x.2.2.1) ∧ W.cell? ⟨Bx, 2, none⟩ = some (.int .i64 x.2.2.2) ∧ a' = { tmps := #[.slice ao l.length cap, .int .i64 id, undef, .pointer (some ⟨w.heap.size, 0, none⟩), .pointer (some ⟨w.heap.size + 1, 0, none⟩), .pointer (some ⟨w.heap.size + 1 + 1, 0, none⟩), undef, .pointer (some ⟨Bx, 0, none⟩), .slice ao l.length cap, .func (.func 27) #[] #[.pointer (some ⟨w.heap.size + 1 + 1 + 1, 0, none⟩)], .int .i64 x.1, .agg #[.int .i64 x.2.1, .int .i64 x.2.2.1, .int .i64 x.2.2.2], undef, undef, undef, undef, undef, undef], defers := [] })
    (fun x a' => Own.from (fun s A B row hs hg hr => by
      obtain ⟨Bx, h1, h2, h3, h4, h5⟩ := hs
      exact ⟨Bx, h1, cell_kept h2 hg hr, cell_kept h3 hg hr, cell_kept h4 hg hr, h5⟩) _) ?assign ?body ?done ?stop
  case assign =>
    rintro lp pre x W K ⟨hp, hB⟩ hK
    simp only [encC]
    gi_wp2
    exact hK _ _ ((KeepsOthers.alloc _ _).from _) ((Below.refl _ W).alloc hB.size _) ⟨hp, hB.alloc hB.size _⟩ ⟨W.heap.size, hB.size, by simp [go_sem], by simp [go_sem], by simp [go_sem], rfl⟩
  case body =>
    rintro lp pre x a' W hlp hr ⟨hp, hB⟩ ⟨Bx, hBx, b0, b1, b2, rfl⟩ hlen'
    have c0 := (hB.cell (p := ⟨w.heap.size, 0, none⟩) (hlt w.heap.size (by omega))).trans (cell_of e0 rfl)
    have E1 : W.heap[w.heap.size + 1]? = some (.cells #[.int .i64 0, .int .i64 0, .int .i64 0] 28 (0, 0)) := (hB.block (w.heap.size + 1) (hlt _ (by omega))).trans e1
    have E2 : W.heap[w.heap.size + 1 + 1]? = some (.cells #[.bool false] 4 (0, 0)) := (hB.block (w.heap.size + 1 + 1) (hlt _ (by omega))).trans e2
    have d0 := cell_of (k := 0) E1 rfl
    have d1 := cell_of (k := 1) E1 rfl
    have d2 := cell_of (k := 2) E1 rfl
    have d3 := cell_of (k := 0) E2 rfl
    have f0 := free_of (k := 0) E1
    have f1 := free_of (k := 1) E1
    have f2 := free_of (k := 2) E1
    have f3 := free_of (k := 0) E2
    clear E1 E2 e0 e1 e2 e3 hr
    have hBw : Below w.heap.size w W := hB0.trans (hB.mono hB0.size)
    gi_wp2
    · rename_i hx
      have hx' : x.2.2.1 = id := by simpa using hx
      refine ⟨((((KeepsOthers.setCell _ _ _).trans (KeepsOthers.setCell _ _ _)).trans (KeepsOthers.setCell _ _ _)).trans (KeepsOthers.setCell _ _ _)).from _, ⟨rfl, pre, x, rfl, hp, hx', ?_, ?_, ?_, ?_⟩, (((hBw.setCell (p := ⟨_, _, none⟩) (by simp) _).setCell (p := ⟨_, _, none⟩) (by simp) _).setCell (p := ⟨_, _, none⟩) (by simp) _).setCell (p := ⟨_, _, none⟩) (by simp; omega) _⟩
      all_goals (simp [go_sem, d0, d1, d2, d3])
    · rename_i hx
      have hx' : x.2.2.1 ≠ id := by simpa using hx
      exact ⟨(KeepsOthers.refl _).from _, Below.refl _ _, fun y hy => (List.mem_append.1 hy).elim (hp y) (fun e => by simp at e; subst e; exact hx'), hB⟩
  case done =>
    rintro D ys W hD rfl ⟨hp, hB⟩ hK
    have E1 : W.heap[w.heap.size + 1]? = some (.cells #[.int .i64 0, .int .i64 0, .int .i64 0] 28 (0, 0)) := (hB.block (w.heap.size + 1) (hlt _ (by omega))).trans e1
    have E2 : W.heap[w.heap.size + 1 + 1]? = some (.cells #[.bool false] 4 (0, 0)) := (hB.block (w.heap.size + 1 + 1) (hlt _ (by omega))).trans e2
    have d0 := cell_of (k := 0) E1 rfl
    have d1 := cell_of (k := 1) E1 rfl
    have d2 := cell_of (k := 2) E1 rfl
    have d3 := cell_of (k := 0) E2 rfl
    have f0 := free_of (k := 0) E1
    have f1 := free_of (k := 1) E1
    have f2 := free_of (k := 2) E1
    have f3 := free_of (k := 0) E2
    clear E1 E2 e0 e1 e2 e3
    have hBw : Below w.heap.size w W := hB0.trans (hB.mono hB0.size)
    have hN := last_none hp
    gi_wp2
    obtain ⟨W4, hW4⟩ : ∃ W4, ((((W.setCell ⟨w.heap.size + 1, 0, none⟩ (.int .i64 0)).setCell ⟨w.heap.size + 1, 1, none⟩ (.int .i64 0)).setCell ⟨w.heap.size + 1, 2, none⟩ (.int .i64 0)).setCell ⟨w.heap.size + 1 + 1, 0, none⟩ (.bool false)) = W4 := ⟨_, rfl⟩
    have hB4 : Below w.heap.size w W4 := by subst hW4; exact (((hBw.setCell (p := ⟨_, _, none⟩) (by simp) _).setCell (p := ⟨_, _, none⟩) (by simp) _).setCell (p := ⟨_, _, none⟩) (by simp) _).setCell (p := ⟨_, _, none⟩) (by simp; omega) _
    have hK4 : W4.heap[D]? = some (.deferred (some [])) := by subst hW4; exact ((((KeepsOthers.setCell _ _ _).trans (KeepsOthers.setCell _ _ _)).trans (KeepsOthers.setCell _ _ _)).trans (KeepsOthers.setCell _ _ _)).same D _ hK rfl
    have g0 : W4.cell? ⟨w.heap.size + 1, 0, none⟩ = some (.int .i64 0) := by subst hW4; simp [go_sem, d0, d1, d2, d3]
    have g1 : W4.cell? ⟨w.heap.size + 1, 1, none⟩ = some (.int .i64 0) := by subst hW4; simp [go_sem, d0, d1, d2, d3]
    have g2 : W4.cell? ⟨w.heap.size + 1, 2, none⟩ = some (.int .i64 0) := by subst hW4; simp [go_sem, d0, d1, d2, d3]
    have g3 : W4.cell? ⟨w.heap.size + 1 + 1, 0, none⟩ = some (.bool false) := by subst hW4; simp [go_sem, d0, d1, d2, d3]
    rw [hW4]
    clear hW4
    refine ⟨by simp, .inl ⟨_, _, rfl, run_takeDeferred hK4, ?_⟩⟩
    have c0 := cell_kept g0 (grownBy_putObj' _ D (.deferred none)) (fun r e => by cases e; exact ⟨_, hK4, rfl⟩)
    have c1 := cell_kept g1 (grownBy_putObj' _ D (.deferred none)) (fun r e => by cases e; exact ⟨_, hK4, rfl⟩)
    have c2 := cell_kept g2 (grownBy_putObj' _ D (.deferred none)) (fun r e => by cases e; exact ⟨_, hK4, rfl⟩)
    have c3 := cell_kept g3 (grownBy_putObj' _ D (.deferred none)) (fun r e => by cases e; exact ⟨_, hK4, rfl⟩)
    refine ⟨resultL l id, ?_, rfl, hB4.trans (belowK_b (w := w) (Nat.le_refl _) W4 D _ _ (by omega) hK4 rfl rfl)⟩
    simp [results, Try.f13, go_sem, resultL, hN, c0, c1, c2, c3]
  case stop =>
    rintro D c pre W hD hpre ⟨⟨rfl, pre0, x, rfl, hp, hx, h0, h1, h2, h3⟩, hB⟩ hK
    have hF := last_find hpre hp hx
    gi_wp2
    refine ⟨by simp, .inl ⟨_, _, rfl, run_takeDeferred hK, ?_⟩⟩
    have c0 := cell_kept h0 (grownBy_putObj' _ D (.deferred none)) (fun r e => by cases e; exact ⟨_, hK, rfl⟩)
    have c1 := cell_kept h1 (grownBy_putObj' _ D (.deferred none)) (fun r e => by cases e; exact ⟨_, hK, rfl⟩)
    have c2 := cell_kept h2 (grownBy_putObj' _ D (.deferred none)) (fun r e => by cases e; exact ⟨_, hK, rfl⟩)
    have c3 := cell_kept h3 (grownBy_putObj' _ D (.deferred none)) (fun r e => by cases e; exact ⟨_, hK, rfl⟩)
    refine ⟨resultL l id, ?_, rfl, hB.trans (belowK_b (w := w) (Nat.le_refl _) W D _ _ (by omega) hK rfl rfl)⟩
    simp [results, Try.f13, go_sem, resultL, hF, c0, c1, c2, c3]
end Go.Proofs.Ytkmkedmefhmnaaa
