/- What is pending, what is known of a record: the program's. -/
import Derived.Test.YtefefpiealknlaaGreatDoorAuCont
namespace Go.Proofs.YtefefpiealknlaaGreatDoor
open Go.RowKit Lift
set_option linter.unusedSimpArgs false
set_option linter.unusedVariables false

def dueI (c : Rec) : Int := if (c.2.1 && decide (c.2.2.2.2.1 = 0)) = true then 1 else if (c.2.1 && decide (c.2.2.1 ≠ c.2.2.2.2.2.1)) = true then 2 else if (!c.2.1 && decide (0 < c.2.2.2.2.1)) = true then 3 else 0
set_option maxHeartbeats 1000000 in
set_option maxRecDepth 100000 in
theorem due_any (c : Rec) (hok : okRec c) (w : World) : Calls Tryz.prog 18 #[encRec c] w (BelowPost (.int .i64 (dueI c)) w) := by
  obtain ⟨d0, d1, d2, d3, d4, d5, d6, d7, d8⟩ := c
  unfold encRec
  simp only
  have hb : Below w.heap.size w (w.alloc (.cells #[.int .i64 d0, .bool d1, .int .i64 d2, .string d3, .int .i64 d4, .int .i64 d5, .string d6, .int .i64 d7, .string d8] 32)) := (Below.refl _ _).alloc (Nat.le_refl _) _
  clear hok
  cases d1 with
  | true =>
    by_cases h4 : d4 = 0
    · have e : dueI (d0, true, d2, d3, d4, d5, d6, d7, d8) = 1 := by simp [dueI, h4]
      rw [e]
      have hd : (d4 == 0) = true := by simpa using h4
      clear h4 e
      go_enter Tryz.func18, Tryz.ntmps18
      go_wp2_with fail
      go_ret
      exact ⟨rfl, hb⟩
    · have hd : (d4 == 0) = false := by simpa using h4
      by_cases h2 : d2 = d5
      · have e : dueI (d0, true, d2, d3, d4, d5, d6, d7, d8) = 0 := by simp [dueI, h4, h2]
        rw [e]
        have hd2 : (d2 != d5) = false := by simpa using h2
        clear h4 h2 e
        go_enter Tryz.func18, Tryz.ntmps18
        go_wp2_with fail
        go_ret
        exact ⟨rfl, hb⟩
      · have e : dueI (d0, true, d2, d3, d4, d5, d6, d7, d8) = 2 := by simp [dueI, h4, h2]
        rw [e]
        have hd2 : (d2 != d5) = true := by simpa using h2
        clear h4 h2 e
        go_enter Tryz.func18, Tryz.ntmps18
        go_wp2_with fail
        go_ret
        exact ⟨rfl, hb⟩
  | false =>
    by_cases h4 : 0 < d4
    · have e : dueI (d0, false, d2, d3, d4, d5, d6, d7, d8) = 3 := by simp [dueI, h4]
      rw [e]
      have hd : decide (0 < d4) = true := by simpa using h4
      clear h4 e
      go_enter Tryz.func18, Tryz.ntmps18
      go_wp2_with fail
      go_ret
      exact ⟨rfl, hb⟩
    · have e : dueI (d0, false, d2, d3, d4, d5, d6, d7, d8) = 0 := by simp [dueI, h4]
      rw [e]
      have hd : decide (0 < d4) = false := by simpa using h4
      clear h4 e
      go_enter Tryz.func18, Tryz.ntmps18
      go_wp2_with fail
      go_ret
      exact ⟨rfl, hb⟩
set_option maxHeartbeats 1000000 in
set_option maxRecDepth 100000 in
theorem pend1 (B : Nat) (W : World) : PredOf okEnt encEnt 15 [] (fun c => decide (0 < c.2.1)) B W := by
  refine ⟨fun args w => by kernel_rfl, fun w c hok hb => ?_⟩
  clear hb
  show Calls Tryz.prog 15 #[encEnt c] w _
  unfold encEnt
  go_enter Tryz.func15, Tryz.ntmps15
  go_wp2_with fail
  go_ret
  exact ⟨rfl, (Below.refl _ _).alloc (Nat.le_refl _) _⟩
set_option maxHeartbeats 1000000 in
set_option maxRecDepth 100000 in
theorem pend2 (B : Nat) (W : World) : PredOf okRec encRec 17 [] (fun c => dueI c != 0) B W := by
  refine ⟨fun args w => by kernel_rfl, fun w c hok hb => ?_⟩
  clear hb
  show Calls Tryz.prog 17 #[encRec c] w _
  have HC := Lib.hid (fun w => due_any c hok w)
  obtain ⟨x, hx⟩ : ∃ x, dueI c = x := ⟨_, rfl⟩
  rw [hx] at HC ⊢
  have hb : Below w.heap.size w (w.alloc (.cells #[.int .i64 c.1, .bool c.2.1, .int .i64 c.2.2.1, .string c.2.2.2.1, .int .i64 c.2.2.2.2.1, .int .i64 c.2.2.2.2.2.1, .string c.2.2.2.2.2.2.1, .int .i64 c.2.2.2.2.2.2.2.1, .string c.2.2.2.2.2.2.2.2] 32)) := (Below.refl _ _).alloc (Nat.le_refl _) _
  clear hx hok
  unfold encRec at HC ⊢
  go_enter Tryz.func17, Tryz.ntmps17
  go_wp2_with fail
  refine (HC.out _).mono ?_
  rintro e w1 ⟨rfl, hb1⟩
  go_wp2_with fail
  go_ret
  exact ⟨rfl, chain hb hb1⟩
def pendB (s : Sd) : Bool := decide (0 < s.g.length) || (decide (0 < s.p.length) || (s.e.any (fun c => decide (0 < c.2.1)) || s.r.any (fun c => dueI c != 0)))
set_option maxHeartbeats 4000000 in
set_option maxRecDepth 100000 in
theorem pending_any (s : Sd) (w : World) (hs : SdOk w.heap.size w s) : Calls Tryz.prog 7 #[sdV s] w (BelowPost (.bool (pendB s)) w) := by
  obtain ⟨W0, hW0⟩ : ∃ W0, w.alloc (.cells #[.slice s.ea s.e.length s.ec, .slice s.ga s.g.length s.gc, .slice s.pa s.p.length s.pc, .slice s.ra s.r.length s.rc] 28) = W0 := ⟨_, rfl⟩
  have hb0 : Below w.heap.size w W0 := by rw [← hW0]; exact (Below.refl _ _).alloc (Nat.le_refl _) _
  have hsz : w.heap.size < W0.heap.size := by rw [← hW0]; simp
  obtain ⟨x0, x1, x2, x3⟩ : SdBox W0 w.heap.size s := by rw [← hW0]; exact ⟨by simp [go_sem], by simp [go_sem], by simp [go_sem], by simp [go_sem]⟩
  have hs0 := hs.old hb0
  have hel := hs.el
  have hrl := hs.rl
  have HC1 := Lib.hid (contains_ent0 s.ea s.ec s.e 15 _ W0 hs0.e.here (by omega) (pend1 _ _))
  have HC2 := Lib.hid (fun w' (hb : Below W0.heap.size W0 w') => contains_rec0 s.ra s.rc s.r 17 _ w' (hs0.r.old (hb.mono (Nat.le_of_lt hsz))).here (by omega) (pend2 _ _))
  obtain ⟨A, hA⟩ : ∃ A, s.e.any (fun c => decide (0 < c.2.1)) = A := ⟨_, rfl⟩
  obtain ⟨B, hB⟩ : ∃ B, s.r.any (fun c => dueI c != 0) = B := ⟨_, rfl⟩
  unfold pendB
  rw [hA] at HC1 ⊢
  rw [hB] at HC2 ⊢
  have HT0 := Lib.hid hb0
  have hst := Below.refl W0.heap.size W0
  clear hs hs0 hA hB hb0 hel hrl
  unfold sdV
  by_cases h1 : 0 < s.g.length
  · have hd1 : decide ((0 : Int) < (s.g.length : Int)) = true := by simpa using h1
    have hd1' : decide (0 < s.g.length) = true := by simpa using h1
    rw [hd1', Bool.true_or]
    go_enter Tryz.func7, Tryz.ntmps7
    go_wp2_with fail
    go_ret
    exact ⟨rfl, HT0.out⟩
  · have hd1 : decide ((0 : Int) < (s.g.length : Int)) = false := by simpa using h1
    have hd1' : decide (0 < s.g.length) = false := by simpa using h1
    rw [hd1', Bool.false_or]
    clear h1
    by_cases h2 : 0 < s.p.length
    · have hd2 : decide ((0 : Int) < (s.p.length : Int)) = true := by simpa using h2
      have hd2' : decide (0 < s.p.length) = true := by simpa using h2
      rw [hd2', Bool.true_or]
      go_enter Tryz.func7, Tryz.ntmps7
      go_wp2_with fail
      go_ret
      exact ⟨rfl, HT0.out⟩
    · have hd2 : decide ((0 : Int) < (s.p.length : Int)) = false := by simpa using h2
      have hd2' : decide (0 < s.p.length) = false := by simpa using h2
      rw [hd2', Bool.false_or]
      clear h2
      cases A with
      | true =>
        rw [Bool.true_or]
        go_enter Tryz.func7, Tryz.ntmps7
        go_wp2_with fail
        refine HC1.out.mono ?_
        rintro e w1 ⟨rfl, hb1⟩
        go_wp2_with fail
        go_ret
        exact ⟨rfl, chain HT0.out hb1⟩
      | false =>
        rw [Bool.false_or]
        go_enter Tryz.func7, Tryz.ntmps7
        go_wp2_with fail
        refine HC1.out.mono ?_
        rintro e w1 ⟨rfl, hb1⟩
        have y3 := (hb1.cell (p := ⟨w.heap.size, 3, none⟩) hsz).trans x3
        have HC3 := Lib.hid (HC2.out _ hb1)
        clear HC2
        go_wp2_with fail
        refine HC3.out.mono ?_
        rintro e w2 ⟨rfl, hb2⟩
        go_wp2_with fail
        go_ret
        exact ⟨rfl, chain (chain HT0.out hb1) hb2⟩
end Go.Proofs.YtefefpiealknlaaGreatDoor
