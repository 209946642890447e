/- What is wrong with a log: the program's Check and the reference's. -/
import Derived.Test.YtkmkedmefhmnaaaLPure
import Derived.Deep.QuietTactic
namespace Go.Proofs.Ytkmkedmefhmnaaa
open Go.RowKit Lift
set_option linter.unusedSimpArgs false
set_option linter.unusedVariables false

/-- The first thing that is wrong; the version before is told. -/
def chk : Option Int → List Chg → Int
  | _, [] => 0
  | p, c :: r =>
    if c.1 < 1 ∨ 268435456 < c.1 ∨ c.2.1 < 1 ∨ 268435456 < c.2.1 then 2
    else if c.2.2 ≠ 1 ∧ c.2.2 ≠ 2 then 5
    else match p with
      | none => chk (some c.1) r
      | some v => if c.1 ≤ v then 15 else chk (some c.1) r
theorem chk_eq (p : Option Int) (c : Chg) (r : List Chg) : chk p (c :: r) = if (c.1 < 1 ∨ 268435456 < c.1 ∨ c.2.1 < 1 ∨ 268435456 < c.2.1) then 2 else if c.2.2 ≠ 1 ∧ c.2.2 ≠ 2 then 5 else match p with | none => chk (some c.1) r | some v => if c.1 ≤ v then 15 else chk (some c.1) r := by
  cases p <;> rw [chk]
def chkL (l : List Chg) : Int := if 2000 < l.length then 4 else chk none l
def prev (l : List Chg) : Nat → Option Int
  | 0 => none
  | k + 1 => (l[k]?).map (·.1)
theorem bN {B : Nat} {a b : World} (n : Nat) (h : Below B a b) : Below B a (b.drewN n) := below_drewN h n

set_option maxHeartbeats 1000000 in
set_option maxRecDepth 100000 in
theorem check_any {S : Nat → Prop} (ao : Option Addr) (cap : Nat) (l : List Chg) (w : World) (hl : SlAt rChg S w ao l) (hll : l.length ≤ maxLen) :
    Calls Try.prog 15 #[.slice ao l.length cap] w (BelowPost (.int .i64 (chkL l)) w) := by
  unfold maxLen at hll
  by_cases hlen : l.length ≤ 2000
  · rw [show chkL l = chk none l from if_neg (by omega)]
    have hd : decide ((2000:Int) < (l.length : Int)) = false := by simp; omega
    go_enter Try.func15, Try.ntmps15
    go_wp2
    go_loopw [10] (fun i wr => ∃ k : Nat, k ≤ l.length ∧ i = .int .i64 k ∧ Hid (chk none l = chk (prev l k) (l.drop k)) ∧ Below w.heap.size w wr) (fun i _ => l.length - (intOf i).toNat)
    case atStart => exact ⟨0, by omega, rfl, Lib.hid rfl, Below.refl _ _⟩
    case round =>
      obtain ⟨k, hk, rfl, hs, hbr⟩ := hrel
      have hB := hbr.size
      by_cases hlt : k < l.length
      · obtain ⟨c, hcl⟩ := some_at hlt
        obtain ⟨b, off, rfl, hbx, d0, d1, d2⟩ := chg_get (hl.below hbr) hcl
        have hbn : b ≠ wr.heap.size := by omega
        have hs := hs.out
        rw [drop_at2 hcl, chk_eq] at hs
        have hP : prev l (k + 1) = some c.1 := by simp [prev, hcl]
        by_cases hk0 : 0 < k
        · obtain ⟨p, hpl⟩ : ∃ p, l[k-1]? = some p := some_at (by omega)
          obtain ⟨b2, off2, e2, _, p0, p1, p2⟩ := chg_get (hl.below hbr) hpl
          obtain ⟨rfl, rfl⟩ : b2 = b ∧ off2 = off := by injection e2 with e2; injection e2 with h1 h2; exact ⟨h1.symm, h2.symm⟩
          have hk2 : (0:Int) ≤ (k:Int) - 1 := by omega
          have hk3 : (k:Int) - 1 < (l.length : Int) := by omega
          have hQ : prev l k = some p.1 := by
            obtain ⟨m, rfl⟩ : ∃ m, k = m + 1 := ⟨k - 1, by omega⟩
            simp only [Nat.add_sub_cancel] at hpl; simp [prev, hpl]
          rw [hQ, ← hP] at hs
          have hS := Lib.hid hs
          clear hs hP hQ e2
          go_wp2
          all_goals first
            | (go_ret; refine ⟨congrArg (fun n => Ending.returned (.int .i64 n)) ?_, (by first | exact Below.refl _ _ | ((repeat (refine bN _ ?_)); first | exact Below.refl _ _ | go_grown))⟩; rw [hS.out]; ((repeat' split) <;> first | rfl | omega | (simp only [bne_iff_ne, beq_iff_eq, bne_eq_false_iff_eq, beq_eq_false_iff_ne, ne_eq, decide_eq_true_eq, decide_eq_false_iff_not, Bool.not_eq_true', Bool.not_eq_false'] at *; omega) | (simp at *; omega)))
            | ((try simp only [Bool.not_eq_false', Bool.not_eq_true', decide_eq_true_eq, decide_eq_false_iff_not] at *); (refine wp_region_quiet_lit (by kernel_rfl) (by kernel_rfl) ?_; (repeat (any_goals (first | go_big_quiet_step (fail) | quiet_step (fail) | (refine wpQuiet_step (fun K hK => ?_); go_simp; split <;> (refine hK _ ?_; clear hK K))))); all_goals (refine wpQuiet_nil ?_; intro _ hw'; obtain ⟨nq, hw''⟩ := hw'; subst hw'')); go_wp2)
          all_goals first
            | (go_ret; refine ⟨congrArg (fun n => Ending.returned (.int .i64 n)) ?_, (by first | exact Below.refl _ _ | ((repeat (refine bN _ ?_)); first | exact Below.refl _ _ | go_grown))⟩; rw [hS.out]; ((repeat' split) <;> first | rfl | omega | (simp only [bne_iff_ne, beq_iff_eq, bne_eq_false_iff_eq, beq_eq_false_iff_ne, ne_eq, decide_eq_true_eq, decide_eq_false_iff_not, Bool.not_eq_true', Bool.not_eq_false'] at *; omega) | (simp at *; omega)))
            | (go_roundw; (case rel => refine ⟨k + 1, by omega, by go_num, Lib.hid ?_, (by first | exact Below.refl _ _ | ((repeat (refine bN _ ?_)); first | exact Below.refl _ _ | go_grown))⟩; rw [hS.out]; ((repeat' split) <;> first | rfl | omega | (simp only [bne_iff_ne, beq_iff_eq, bne_eq_false_iff_eq, beq_eq_false_iff_ne, ne_eq, decide_eq_true_eq, decide_eq_false_iff_not, Bool.not_eq_true', Bool.not_eq_false'] at *; omega) | (simp at *; omega))); (case measure => simp [intOf]; omega))
            | skip
        · have hQ : prev l k = none := by { obtain rfl : k = 0 := by omega
                                            rfl }
          rw [hQ, ← hP] at hs
          have hS := Lib.hid hs
          clear hs hP hQ
          go_wp2
          all_goals first
            | (go_ret; refine ⟨congrArg (fun n => Ending.returned (.int .i64 n)) ?_, (by first | exact Below.refl _ _ | ((repeat (refine bN _ ?_)); first | exact Below.refl _ _ | go_grown))⟩; rw [hS.out]; ((repeat' split) <;> first | rfl | omega | (simp only [bne_iff_ne, beq_iff_eq, bne_eq_false_iff_eq, beq_eq_false_iff_ne, ne_eq, decide_eq_true_eq, decide_eq_false_iff_not, Bool.not_eq_true', Bool.not_eq_false'] at *; omega) | (simp at *; omega)))
            | ((try simp only [Bool.not_eq_false', Bool.not_eq_true', decide_eq_true_eq, decide_eq_false_iff_not] at *); have hk1 : decide (0 < k) = false := (by simpa using hk0); (refine wp_region_quiet_lit (by kernel_rfl) (by kernel_rfl) ?_; (repeat (any_goals (first | go_big_quiet_step (fail) | quiet_step (fail) | (refine wpQuiet_step (fun K hK => ?_); go_simp; split <;> (refine hK _ ?_; clear hK K))))); all_goals (refine wpQuiet_nil ?_; intro _ hw'; obtain ⟨nq, hw''⟩ := hw'; subst hw'')); go_wp2)
          all_goals first
            | (go_ret; refine ⟨congrArg (fun n => Ending.returned (.int .i64 n)) ?_, (by first | exact Below.refl _ _ | ((repeat (refine bN _ ?_)); first | exact Below.refl _ _ | go_grown))⟩; rw [hS.out]; ((repeat' split) <;> first | rfl | omega | (simp only [bne_iff_ne, beq_iff_eq, bne_eq_false_iff_eq, beq_eq_false_iff_ne, ne_eq, decide_eq_true_eq, decide_eq_false_iff_not, Bool.not_eq_true', Bool.not_eq_false'] at *; omega) | (simp at *; omega)))
            | (go_roundw; (case rel => refine ⟨k + 1, by omega, by go_num, Lib.hid ?_, (by first | exact Below.refl _ _ | ((repeat (refine bN _ ?_)); first | exact Below.refl _ _ | go_grown))⟩; rw [hS.out]; ((repeat' split) <;> first | rfl | omega | (simp only [bne_iff_ne, beq_iff_eq, bne_eq_false_iff_eq, beq_eq_false_iff_ne, ne_eq, decide_eq_true_eq, decide_eq_false_iff_not, Bool.not_eq_true', Bool.not_eq_false'] at *; omega) | (simp at *; omega))); (case measure => simp [intOf]; omega))
            | skip
      · obtain rfl : k = l.length := by omega
        have hS := Lib.hid (hs.out.trans (by rw [List.drop_length]; rfl : chk (prev l l.length) (l.drop l.length) = 0))
        clear hs
        go_wp2
        go_ret
        exact ⟨by rw [hS.out]; rfl, hbr⟩
  · rw [show chkL l = 4 from if_pos (by omega)]
    have hd : decide ((2000:Int) < (l.length : Int)) = true := by simp; omega
    go_enter Try.func15, Try.ntmps15
    go_wp2
    go_ret
    exact ⟨rfl, Below.refl _ _⟩

set_option maxHeartbeats 1000000 in
set_option maxRecDepth 100000 in
theorem check_ref {S : Nat → Prop} (ao : Option Addr) (cap : Nat) (l : List Chg) (w : World) (hl : SlAt rChg S w ao l) (hll : l.length ≤ maxLen) :
    Calls Try.prog 16 #[.slice ao l.length cap] w (BelowPost (.int .i64 (chkL l)) w) := by
  unfold maxLen at hll
  by_cases hlen : l.length ≤ 2000
  · rw [show chkL l = chk none l from if_neg (by omega)]
    have hd : decide ((2000:Int) < (l.length : Int)) = false := by simp; omega
    go_enter Try.func16, Try.ntmps16
    go_wp2
    go_loopw [3] (fun i wr => ∃ k : Nat, k ≤ l.length ∧ i = .int .i64 k ∧ Hid (chk none l = chk (prev l k) (l.drop k)) ∧ Below w.heap.size w wr) (fun i _ => l.length - (intOf i).toNat)
    case atStart => exact ⟨0, by omega, rfl, Lib.hid rfl, Below.refl _ _⟩
    case round =>
      obtain ⟨k, hk, rfl, hs, hbr⟩ := hrel
      have hB := hbr.size
      by_cases hlt : k < l.length
      · obtain ⟨c, hcl⟩ := some_at hlt
        obtain ⟨b, off, rfl, hbx, d0, d1, d2⟩ := chg_get (hl.below hbr) hcl
        have hbn : b ≠ wr.heap.size := by omega
        have hs := hs.out
        rw [drop_at2 hcl, chk_eq] at hs
        have hP : prev l (k + 1) = some c.1 := by simp [prev, hcl]
        by_cases hk0 : 0 < k
        · obtain ⟨p, hpl⟩ : ∃ p, l[k-1]? = some p := some_at (by omega)
          obtain ⟨b2, off2, e2, _, p0, p1, p2⟩ := chg_get (hl.below hbr) hpl
          obtain ⟨rfl, rfl⟩ : b2 = b ∧ off2 = off := by injection e2 with e2; injection e2 with h1 h2; exact ⟨h1.symm, h2.symm⟩
          have hk2 : (0:Int) ≤ (k:Int) - 1 := by omega
          have hk3 : (k:Int) - 1 < (l.length : Int) := by omega
          have hQ : prev l k = some p.1 := by
            obtain ⟨m, rfl⟩ : ∃ m, k = m + 1 := ⟨k - 1, by omega⟩
            simp only [Nat.add_sub_cancel] at hpl; simp [prev, hpl]
          rw [hQ, ← hP] at hs
          have hS := Lib.hid hs
          clear hs hP hQ e2
          go_wp2
          all_goals first
            | (go_ret; refine ⟨congrArg (fun n => Ending.returned (.int .i64 n)) ?_, (by first | exact Below.refl _ _ | ((repeat (refine bN _ ?_)); first | exact Below.refl _ _ | go_grown))⟩; rw [hS.out]; ((repeat' split) <;> first | rfl | omega | (simp only [bne_iff_ne, beq_iff_eq, bne_eq_false_iff_eq, beq_eq_false_iff_ne, ne_eq, decide_eq_true_eq, decide_eq_false_iff_not, Bool.not_eq_true', Bool.not_eq_false'] at *; omega) | (simp at *; omega)))
            | ((try simp only [Bool.not_eq_false', Bool.not_eq_true', decide_eq_true_eq, decide_eq_false_iff_not] at *); (refine wp_region_quiet_lit (by kernel_rfl) (by kernel_rfl) ?_; (repeat (any_goals (first | go_big_quiet_step (fail) | quiet_step (fail) | (refine wpQuiet_step (fun K hK => ?_); go_simp; split <;> (refine hK _ ?_; clear hK K))))); all_goals (refine wpQuiet_nil ?_; intro _ hw'; obtain ⟨nq, hw''⟩ := hw'; subst hw'')); go_wp2)
          all_goals first
            | (go_ret; refine ⟨congrArg (fun n => Ending.returned (.int .i64 n)) ?_, (by first | exact Below.refl _ _ | ((repeat (refine bN _ ?_)); first | exact Below.refl _ _ | go_grown))⟩; rw [hS.out]; ((repeat' split) <;> first | rfl | omega | (simp only [bne_iff_ne, beq_iff_eq, bne_eq_false_iff_eq, beq_eq_false_iff_ne, ne_eq, decide_eq_true_eq, decide_eq_false_iff_not, Bool.not_eq_true', Bool.not_eq_false'] at *; omega) | (simp at *; omega)))
            | (go_roundw; (case rel => refine ⟨k + 1, by omega, by go_num, Lib.hid ?_, (by first | exact Below.refl _ _ | ((repeat (refine bN _ ?_)); first | exact Below.refl _ _ | go_grown))⟩; rw [hS.out]; ((repeat' split) <;> first | rfl | omega | (simp only [bne_iff_ne, beq_iff_eq, bne_eq_false_iff_eq, beq_eq_false_iff_ne, ne_eq, decide_eq_true_eq, decide_eq_false_iff_not, Bool.not_eq_true', Bool.not_eq_false'] at *; omega) | (simp at *; omega))); (case measure => simp [intOf]; omega))
            | skip
        · have hQ : prev l k = none := by { obtain rfl : k = 0 := by omega
                                            rfl }
          rw [hQ, ← hP] at hs
          have hS := Lib.hid hs
          clear hs hP hQ
          go_wp2
          all_goals first
            | (go_ret; refine ⟨congrArg (fun n => Ending.returned (.int .i64 n)) ?_, (by first | exact Below.refl _ _ | ((repeat (refine bN _ ?_)); first | exact Below.refl _ _ | go_grown))⟩; rw [hS.out]; ((repeat' split) <;> first | rfl | omega | (simp only [bne_iff_ne, beq_iff_eq, bne_eq_false_iff_eq, beq_eq_false_iff_ne, ne_eq, decide_eq_true_eq, decide_eq_false_iff_not, Bool.not_eq_true', Bool.not_eq_false'] at *; omega) | (simp at *; omega)))
            | ((try simp only [Bool.not_eq_false', Bool.not_eq_true', decide_eq_true_eq, decide_eq_false_iff_not] at *); have hk1 : decide (0 < k) = false := (by simpa using hk0); (refine wp_region_quiet_lit (by kernel_rfl) (by kernel_rfl) ?_; (repeat (any_goals (first | go_big_quiet_step (fail) | quiet_step (fail) | (refine wpQuiet_step (fun K hK => ?_); go_simp; split <;> (refine hK _ ?_; clear hK K))))); all_goals (refine wpQuiet_nil ?_; intro _ hw'; obtain ⟨nq, hw''⟩ := hw'; subst hw'')); go_wp2)
          all_goals first
            | (go_ret; refine ⟨congrArg (fun n => Ending.returned (.int .i64 n)) ?_, (by first | exact Below.refl _ _ | ((repeat (refine bN _ ?_)); first | exact Below.refl _ _ | go_grown))⟩; rw [hS.out]; ((repeat' split) <;> first | rfl | omega | (simp only [bne_iff_ne, beq_iff_eq, bne_eq_false_iff_eq, beq_eq_false_iff_ne, ne_eq, decide_eq_true_eq, decide_eq_false_iff_not, Bool.not_eq_true', Bool.not_eq_false'] at *; omega) | (simp at *; omega)))
            | (go_roundw; (case rel => refine ⟨k + 1, by omega, by go_num, Lib.hid ?_, (by first | exact Below.refl _ _ | ((repeat (refine bN _ ?_)); first | exact Below.refl _ _ | go_grown))⟩; rw [hS.out]; ((repeat' split) <;> first | rfl | omega | (simp only [bne_iff_ne, beq_iff_eq, bne_eq_false_iff_eq, beq_eq_false_iff_ne, ne_eq, decide_eq_true_eq, decide_eq_false_iff_not, Bool.not_eq_true', Bool.not_eq_false'] at *; omega) | (simp at *; omega))); (case measure => simp [intOf]; omega))
            | skip
      · obtain rfl : k = l.length := by omega
        have hS := Lib.hid (hs.out.trans (by rw [List.drop_length]; rfl : chk (prev l l.length) (l.drop l.length) = 0))
        clear hs
        go_wp2
        go_ret
        exact ⟨by rw [hS.out]; rfl, hbr⟩
  · rw [show chkL l = 4 from if_pos (by omega)]
    have hd : decide ((2000:Int) < (l.length : Int)) = true := by simp; omega
    go_enter Try.func16, Try.ntmps16
    go_wp2
    go_ret
    exact ⟨rfl, Below.refl _ _⟩

end Go.Proofs.Ytkmkedmefhmnaaa
