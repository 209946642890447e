/- The reference's Last; LedgerTells, walked. -/
import Derived.Test.YtkmkedmefhmnaaaLLast
namespace Go.Proofs.Ytkmkedmefhmnaaa
open Go.ChangeShapes Go.WideShapes Go.ChangeAt Go.RowKit Lift
set_option linter.unusedSimpArgs false
set_option linter.unusedVariables false

theorem lastL_at {l : List Chg} {id : Int} {j : Nat} {c : Chg} (hc : l[j]? = some c) (hid : c.2.1 = id) (h : ∀ d ∈ l.drop (j + 1), d.2.1 ≠ id) : lastL l id = some c := by
  have e : l = l.take j ++ c :: l.drop (j + 1) := by rw [← drop_at2 hc, List.take_append_drop]
  unfold lastL
  rw [e]
  simp only [List.reverse_append, List.reverse_cons, List.append_assoc]
  rw [List.find?_append, List.find?_eq_none.2 (fun d hd => by simpa using h d (List.mem_reverse.1 hd))]
  simp [hid]
theorem lastL_no {l : List Chg} {id : Int} (h : ∀ d ∈ l, d.2.1 ≠ id) : lastL l id = none := by
  unfold lastL; exact List.find?_eq_none.2 (fun d hd => by simpa using h d (List.mem_reverse.1 hd))

set_option maxHeartbeats 1000000 in
set_option maxRecDepth 100000 in
theorem last_ref (ao : Option Addr) (cap : Nat) (l : List Chg) (id : Int) (w : World) (hl : SlAt rChg (· < w.heap.size) w ao l) (hlen : l.length ≤ 100000) :
    Calls Try.prog 14 #[.slice ao l.length cap, .int .i64 id] w (BelowPost (resultL l id) w) := by
  go_enter Try.func14, Try.ntmps14
  go_wp2_with fail
  go_loopw [6] (fun v6 wr => ∃ (m : Nat) (i : Int), m ≤ l.length ∧ v6 = .int .i64 i ∧ i = (m : Int) - 1 ∧ Hid (∀ d ∈ l.drop m, d.2.1 ≠ id) ∧ Below (w.heap.size + 1) (w.alloc (.cells #[.int .i64 0, .int .i64 0, .int .i64 0] 28)) wr) (fun v6 _ => (intOf v6 + 1).toNat)
  case atStart => exact ⟨l.length, _, Nat.le_refl _, rfl, rfl, Lib.hid (by simp), Below.refl _ _⟩
  case round =>
    obtain ⟨m, i, hm, rfl, hi, hall, hb0⟩ := hrel
    have hb : Below w.heap.size w wr := ((Below.refl _ w).alloc (Nat.le_refl _) _).trans (hb0.mono (by omega))
    have hsz := hb0.size
    simp only [World.size_alloc] at hsz
    have d0 : wr.cell? ⟨w.heap.size, 0, none⟩ = some (.int .i64 0) := (hb0.cell (p := ⟨_, _, none⟩) (by simp)).trans (by simp [go_sem])
    have d1 : wr.cell? ⟨w.heap.size, 1, none⟩ = some (.int .i64 0) := (hb0.cell (p := ⟨_, _, none⟩) (by simp)).trans (by simp [go_sem])
    have d2 : wr.cell? ⟨w.heap.size, 2, none⟩ = some (.int .i64 0) := (hb0.cell (p := ⟨_, _, none⟩) (by simp)).trans (by simp [go_sem])
    have f0 : wr.frozen? ⟨w.heap.size, 0, none⟩ = false := (hb0.frozen (p := ⟨_, _, none⟩) (by simp)).trans (by simp [go_sem])
    have f1 : wr.frozen? ⟨w.heap.size, 1, none⟩ = false := (hb0.frozen (p := ⟨_, _, none⟩) (by simp)).trans (by simp [go_sem])
    have f2 : wr.frozen? ⟨w.heap.size, 2, none⟩ = false := (hb0.frozen (p := ⟨_, _, none⟩) (by simp)).trans (by simp [go_sem])
    cases m with
    | zero =>
      obtain rfl : i = -1 := by omega
      clear hi
      have hN := lastL_no (by simpa using hall.out)
      go_wp2_with fail
      refine bodyPost_ret (v := resultL l id) (by simp [results, Try.f14, go_sem, resultL, hN, d0, d1, d2]) rfl ?_
      exact ⟨rfl, ((hb.setCell (p := ⟨_, _, none⟩) (by simp) _).setCell (p := ⟨_, _, none⟩) (by simp) _).setCell (p := ⟨_, _, none⟩) (by simp) _⟩
    | succ j =>
      obtain rfl : i = (j : Int) := by omega
      clear hi
      obtain ⟨c, hcl⟩ := some_at (l := l) (k := j) (by omega)
      obtain ⟨b1, o1, rfl, hb1, x1, x2, x3⟩ := chg_get (hl.old hb) hcl
      have hbl : b1 ≠ w.heap.size := by
        obtain ⟨b2, o2, cs, e, h2, _⟩ := (hl.old hb).get hcl
        injection e with e; injection e with e e'; omega
      have hj1 : j < l.length := by omega
      have hj2 : (j : Int) < (l.length : Int) := by omega
      have hlim : j ≤ 100000 := by omega
      by_cases hc : c.2.1 = id
      · have hN := lastL_at hcl hc hall.out
        have hq : (c.2.1 == id) = true := by simp [hc]
        go_wp2_with fail
        refine bodyPost_ret (v := resultL l id) (by simp [results, Try.f14, go_sem, resultL, hN, hc, d0, d1, d2]) rfl ?_
        exact ⟨rfl, ((hb.setCell (p := ⟨_, _, none⟩) (by simp) _).setCell (p := ⟨_, _, none⟩) (by simp) _).setCell (p := ⟨_, _, none⟩) (by simp) _⟩
      · have HA := Lib.hid (show ∀ d ∈ l.drop j, d.2.1 ≠ id by
          rw [drop_at2 hcl]
          intro d hd
          rcases List.mem_cons.1 hd with rfl | hd
          · exact hc
          · exact hall.out d hd)
        have hq : (c.2.1 == id) = false := by simp [hc]
        go_wp2_with fail
        go_roundw
        case measure => simp [intOf]
        case rel => exact ⟨j, _, by omega, rfl, rfl, HA, hb0⟩

theorem none_at (w : World) (g : Nat) (hg : g = w.heap.size) : SlAt rChg (· < (w.alloc (.cells #[.int .i64 0, .int .i64 0, .int .i64 0] 28)).heap.size) (w.alloc (.cells #[.int .i64 0, .int .i64 0, .int .i64 0] 28)) (some ⟨g, 0, none⟩) [((0, 0, 0) : Chg)] := by
  subst hg
  refine .inr ⟨w.heap.size, 0, rfl, by simp, by simp, fun k c hk => ?_⟩
  match k, hk with
  | 0, hk => simp at hk; subst hk; exact ⟨_, chg_rel _ _ (0, 0, 0) (Wf.of (by decide) (by decide)) (Wf.of (by decide) (by decide)) (Wf.of (by decide) (by decide)), fun i v hi => by match i, hi with
                                                                                                                                  | 0, hi => simp at hi; subst hi; simp [go_sem, rChg, Rd.pair, Rd.int]
                                                                                                                                  | 1, hi => simp at hi; subst hi; simp [go_sem, rChg, Rd.pair, Rd.int]
                                                                                                                                  | 2, hi => simp at hi; subst hi; simp [go_sem, rChg, Rd.pair, Rd.int]⟩

set_option maxHeartbeats 1000000 in
set_option maxRecDepth 100000 in
theorem law_tells (ao : Option Addr) (cap : Nat) (l : List Chg) (id : Int) (hwf : Wf id) (w : World) (h : SlArg rChg w ao cap l) :
    Calls Try.prog 4 #[.slice ao l.length cap, .int .i64 id] w (TruePost w) := by
  have hl := h.at'
  have hll := Nat.le_trans h.le h.max
  clear h
  unfold maxLen at hll
  by_cases hs : l.length ≤ 3000
  · have hd : decide ((3000:Int) < (l.length : Int)) = false := by simp; omega
    obtain ⟨d, q, hR⟩ : ∃ (d : Chg) (q : Bool), resultL l id = .tuple #[.agg #[.int .i64 d.1, .int .i64 d.2.1, .int .i64 d.2.2], .bool q] := ⟨_, _, rfl⟩
    have H13 := Lib.hid (show Calls Try.prog 13 #[.slice ao l.length cap, .int .i64 id] w (BelowPost (.tuple #[.agg #[.int .i64 d.1, .int .i64 d.2.1, .int .i64 d.2.2], .bool q]) w) by
      rw [← hR]; exact (callsIn_wide (n := 5)).1 (last_in 5 (by omega) ao cap l id w hl (by omega)))
    have H14 := Lib.hid (show ∀ W, Below w.heap.size w W → Calls Try.prog 14 #[.slice ao l.length cap, .int .i64 id] W (BelowPost (.tuple #[.agg #[.int .i64 d.1, .int .i64 d.2.1, .int .i64 d.2.2], .bool q]) W) by
      intro W hb; rw [← hR]; exact last_ref ao cap l id W (hl.old hb).here (by omega))
    clear hR
    go_enter Try.func4, Try.ntmps4
    go_wp2_with fail
    refine H13.out.mono ?_
    rintro e w1 ⟨rfl, hb1⟩
    go_wp2_with fail
    have hB1 : Below w.heap.size w (w1.alloc (.cells #[.int .i64 d.1, .int .i64 d.2.1, .int .i64 d.2.2] 28)) := hb1.alloc hb1.size _
    refine (H14.out _ hB1).mono ?_
    rintro e w2 ⟨rfl, hb2⟩
    have hB2 := (chain hB1 hb2).alloc (chain hB1 hb2).size (.cells #[.int .i64 d.1, .int .i64 d.2.1, .int .i64 d.2.2] 28)
    go_wp2_with fail
    refine (check_any _ _ _ _ (hl.old hB2).here (by unfold maxLen; omega)).mono ?_
    rintro e w3 ⟨rfl, hb3⟩
    have hB3 := chain hB2 hb3
    go_wp2_with fail
    refine (check_ref _ _ _ _ (hl.old hB3).here (by unfold maxLen; omega)).mono ?_
    rintro e w4 ⟨rfl, hb4⟩
    have hB4 := chain hB3 hb4
    have hz2 := hb2.size
    simp only [World.size_alloc] at hz2
    have hA : Below (w1.heap.size + 1) (w1.alloc (.cells #[.int .i64 d.1, .int .i64 d.2.1, .int .i64 d.2.2] 28)) w4 := by
      have h1 : Below (w1.heap.size + 1) (w1.alloc (.cells #[.int .i64 d.1, .int .i64 d.2.1, .int .i64 d.2.2] 28)) (w2.alloc (.cells #[.int .i64 d.1, .int .i64 d.2.1, .int .i64 d.2.2] 28)) := by
        have := hb2; simp only [World.size_alloc] at this; exact this.alloc hz2 _
      exact (h1.trans (hb3.mono (by simp; omega))).trans (hb4.mono (by have := hb3.size; simp at this; omega))
    have hC : Below (w2.heap.size + 1) (w2.alloc (.cells #[.int .i64 d.1, .int .i64 d.2.1, .int .i64 d.2.2] 28)) w4 := by
      have := hb3; simp only [World.size_alloc] at this; exact this.trans (hb4.mono (by have := hb3.size; simp at this; omega))
    have c0 : w4.cell? ⟨w1.heap.size, 0, none⟩ = some (.int .i64 d.1) := (hA.cell (p := ⟨_, _, none⟩) (by simp)).trans (by simp [go_sem])
    have c1 : w4.cell? ⟨w1.heap.size, 1, none⟩ = some (.int .i64 d.2.1) := (hA.cell (p := ⟨_, _, none⟩) (by simp)).trans (by simp [go_sem])
    have c2 : w4.cell? ⟨w1.heap.size, 2, none⟩ = some (.int .i64 d.2.2) := (hA.cell (p := ⟨_, _, none⟩) (by simp)).trans (by simp [go_sem])
    have c3 : w4.cell? ⟨w2.heap.size, 0, none⟩ = some (.int .i64 d.1) := (hC.cell (p := ⟨_, _, none⟩) (by simp)).trans (by simp [go_sem])
    have c4 : w4.cell? ⟨w2.heap.size, 1, none⟩ = some (.int .i64 d.2.1) := (hC.cell (p := ⟨_, _, none⟩) (by simp)).trans (by simp [go_sem])
    have c5 : w4.cell? ⟨w2.heap.size, 2, none⟩ = some (.int .i64 d.2.2) := (hC.cell (p := ⟨_, _, none⟩) (by simp)).trans (by simp [go_sem])
    go_wp2_with fail
    refine (check_any _ 1 [((0, 0, 0) : Chg)] _ (none_at _ _ rfl) (by decide)).mono ?_
    rintro e w5 ⟨rfl, hb5⟩
    rw [show chkL [((0, 0, 0) : Chg)] = 2 by decide]
    have hB5 := chain (hB4.alloc hB4.size _) hb5
    go_wp2_with fail
    go_ret
    exact ⟨rfl, hB5⟩
  · have hd : decide ((3000:Int) < (l.length : Int)) = true := by simp; omega
    go_enter Try.func4, Try.ntmps4
    go_wp2_with fail
    go_ret
    exact ⟨rfl, Below.refl _ _⟩
end Go.Proofs.Ytkmkedmefhmnaaa
