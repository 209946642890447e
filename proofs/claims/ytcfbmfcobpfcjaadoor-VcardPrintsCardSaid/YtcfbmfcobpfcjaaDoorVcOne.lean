/- A letter at a text's beginning, the document's; whether a text is right (printed by gen_one.py). -/
import Derived.Test.YtcfbmfcobpfcjaaDoorVcChk
import Derived.Lib.ValidU
namespace Go.Proofs.YtcfbmfcobpfcjaaDoor
open Go.RowKit Lift
set_option linter.unusedSimpArgs false
set_option linter.unusedVariables false

def bN (s : ByteArray) (i : Nat) : Nat := (s.data.toList.getD i 0).toNat
/-- How many bytes the letter at the beginning has; 0: it is none. -/
def widN (n b0 b1 b2 b3 : Nat) : Nat :=
  if b0 < 128 then 1
  else if b0 / 32 = 6 ∧ 1 < n ∧ b1 / 64 = 2 then (if 128 ≤ b0 % 32 * 64 + b1 % 64 then 2 else 0)
  else if b0 / 16 = 14 ∧ 1 < n ∧ b1 / 64 = 2 ∧ 2 < n ∧ b2 / 64 = 2 then (if 2048 ≤ b0 % 16 * 4096 + b1 % 64 * 64 + b2 % 64 ∧ ¬ (55296 ≤ b0 % 16 * 4096 + b1 % 64 * 64 + b2 % 64 ∧ b0 % 16 * 4096 + b1 % 64 * 64 + b2 % 64 < 57344) then 3 else 0)
  else if b0 / 8 = 30 ∧ 1 < n ∧ b1 / 64 = 2 ∧ 2 < n ∧ b2 / 64 = 2 ∧ 3 < n ∧ b3 / 64 = 2 then (if 65536 ≤ b0 % 8 * 262144 + b1 % 64 * 4096 + b2 % 64 * 64 + b3 % 64 ∧ b0 % 8 * 262144 + b1 % 64 * 4096 + b2 % 64 * 64 + b3 % 64 ≤ 1114111 then 4 else 0)
  else 0
def widR (s : ByteArray) : Nat := if s.size = 0 then 0 else widN s.size (bN s 0) (bN s 1) (bN s 2) (bN s 3)
def OnePost (n : Nat) (w : World) (e : Ending) (w' : World) : Prop := (∃ x : Nat, x ≤ 1114111 ∧ e = .returned (.tuple #[.int .i64 x, .int .i64 n])) ∧ w' = w
theorem bN_at (s : ByteArray) (i : Nat) (h : i < s.size) : bN s i = (s[i]'h).toNat := by
  unfold bN
  have hl : i < s.data.toList.length := by simpa using h
  rw [List.getD_eq_getElem?_getD, List.getElem?_eq_getElem hl]; rfl
set_option maxHeartbeats 4000000 in
set_option maxRecDepth 100000 in
theorem one_ref (s : ByteArray) (hs : s.size ≤ maxTx) (w : World) : Calls Tryd.prog 78 #[.string s] w (OnePost (widR s) w) := by
  unfold maxTx at hs
  have hE := empty_list s
  by_cases h0 : s.size = 0
  · have hn : s.toList = [] := by rw [decide_eq_true h0] at hE; simpa using hE
    have he2 : s.toList.isEmpty = true := by rw [hn]; rfl
    have HW := Lib.hid (show widR s = 0 by unfold widR; rw [if_pos h0])
    clear hE hn h0
    go_enter Tryd.func78, Tryd.ntmps78
    go_wp2_with fail
    go_ret2
    exact ⟨⟨0, by omega, by rw [HW.out]; rfl⟩, rfl⟩
  have hn : s.toList ≠ [] := by rw [decide_eq_false h0] at hE; simpa using hE
  have he2 : s.toList.isEmpty = false := by simpa using hn
  have hp : 0 < s.size := by omega
  have hpz : (0 : Int) < (s.size : Int) := by omega
  have HB0 := Lib.hid (bN_at s 0 hp)
  have HWD := Lib.hid (show widR s = widN s.size (bN s 0) (bN s 1) (bN s 2) (bN s 3) by unfold widR; rw [if_neg h0])
  have HBN := Lib.hid (fun i (h : i < s.size) => bN_at s i h)
  clear hE hn h0
  obtain ⟨c, hc⟩ : ∃ c, s[0]'hp = c := ⟨_, rfl⟩
  have hcn := c.toNat_lt
  rw [hc] at HB0
  rw [HB0.out] at HWD
  clear HB0
  obtain ⟨b1, hb1⟩ : ∃ b, bN s 1 = b := ⟨_, rfl⟩
  obtain ⟨b2, hb2⟩ : ∃ b, bN s 2 = b := ⟨_, rfl⟩
  obtain ⟨b3, hb3⟩ : ∃ b, bN s 3 = b := ⟨_, rfl⟩
  rw [hb1, hb2, hb3] at HWD
  have HB1 := Lib.hid hb1; have HB2 := Lib.hid hb2; have HB3 := Lib.hid hb3
  clear hb1 hb2 hb3
  by_cases h1 : c.toNat < 128
  · have HW := Lib.hid (show widR s = 1 by rw [HWD.out]; unfold widN; rw [if_pos h1])
    go_enter Tryd.func78, Tryd.ntmps78
    go_wp2_with fail
    go_ret2
    exact ⟨⟨c.toNat, by omega, by rw [HW.out]; rfl⟩, rfl⟩
  by_cases h2 : 192 ≤ c.toNat ∧ c.toNat < 224
  · obtain ⟨l1, l2⟩ := h2
    have hmd : IntKind.i64.wrap ((c.toNat : Int).tmod 32) = ((c.toNat % 32 : Nat) : Int) := by rw [Int.tmod_eq_emod_of_nonneg (by omega), IntWalk.i64_in _ (by omega)]; omega
    by_cases hn : s.size < 2
    · have hnz : (s.size : Int) < 2 := by omega
      have HW := Lib.hid (show widR s = 0 by rw [HWD.out]; unfold widN; (repeat' split) <;> omega)
      go_enter Tryd.func78, Tryd.ntmps78
      go_wp2_with fail
      go_ret2
      exact ⟨⟨0, by omega, by rw [HW.out]; rfl⟩, rfl⟩
    have hnz : ¬ (s.size : Int) < 2 := by omega
    have g1 : (1 : Int) < (s.size : Int) := by omega
    obtain ⟨x1, hx1⟩ : ∃ x, s[1]'(by omega) = x := ⟨_, rfl⟩
    have hq1 := HBN.out 1 (by omega)
    rw [hx1, HB1.out] at hq1
    have m1 := x1.toNat_lt
    by_cases y1 : x1.toNat < 128
    · subst hq1
      have HW := Lib.hid (show widR s = 0 by rw [HWD.out]; unfold widN; (repeat' split) <;> omega)
      go_enter Tryd.func78, Tryd.ntmps78
      go_wp2_with fail
      refine wp_loop_rounds 1 ?_
      rw [rounds_succ]
      go_wp2_with fail
      go_ret2
      exact ⟨⟨0, by omega, by rw [HW.out]; rfl⟩, rfl⟩
    by_cases z1 : 192 ≤ x1.toNat
    · subst hq1
      have HW := Lib.hid (show widR s = 0 by rw [HWD.out]; unfold widN; (repeat' split) <;> omega)
      go_enter Tryd.func78, Tryd.ntmps78
      go_wp2_with fail
      refine wp_loop_rounds 1 ?_
      rw [rounds_succ]
      go_wp2_with fail
      go_ret2
      exact ⟨⟨0, by omega, by rw [HW.out]; rfl⟩, rfl⟩
    subst hq1
    by_cases k1 : (64 * (c.toNat % 32) + x1.toNat % 64) < 128
    · have HW := Lib.hid (show widR s = 0 by rw [HWD.out]; unfold widN; (repeat' split) <;> omega)
      go_enter Tryd.func78, Tryd.ntmps78
      go_wp2_with fail
      refine wp_loop_rounds 2 ?_
      rw [rounds_succ]
      go_wp2_with fail
      rw [rounds_succ]
      go_wp2_with fail
      go_ret2
      exact ⟨⟨0, by omega, by rw [HW.out]; rfl⟩, rfl⟩
    have HW := Lib.hid (show widR s = 2 by rw [HWD.out]; unfold widN; (repeat' split) <;> omega)
    have HV := Lib.hid (show (64 * (c.toNat % 32) + x1.toNat % 64) ≤ 1114111 by omega)
    go_enter Tryd.func78, Tryd.ntmps78
    go_wp2_with fail
    refine wp_loop_rounds 2 ?_
    rw [rounds_succ]
    go_wp2_with fail
    rw [rounds_succ]
    go_wp2_with fail
    all_goals
      go_ret2
      exact ⟨⟨(64 * (c.toNat % 32) + x1.toNat % 64), HV.out, by rw [HW.out]; simp only [Int.natCast_add, Int.natCast_mul, Int.natCast_emod]; rfl⟩, rfl⟩
  by_cases h3 : 224 ≤ c.toNat ∧ c.toNat < 240
  · obtain ⟨l1, l2⟩ := h3
    have hmd : IntKind.i64.wrap ((c.toNat : Int).tmod 16) = ((c.toNat % 16 : Nat) : Int) := by rw [Int.tmod_eq_emod_of_nonneg (by omega), IntWalk.i64_in _ (by omega)]; omega
    by_cases hn : s.size < 3
    · have hnz : (s.size : Int) < 3 := by omega
      have HW := Lib.hid (show widR s = 0 by rw [HWD.out]; unfold widN; (repeat' split) <;> omega)
      go_enter Tryd.func78, Tryd.ntmps78
      go_wp2_with fail
      go_ret2
      exact ⟨⟨0, by omega, by rw [HW.out]; rfl⟩, rfl⟩
    have hnz : ¬ (s.size : Int) < 3 := by omega
    have g1 : (1 : Int) < (s.size : Int) := by omega
    obtain ⟨x1, hx1⟩ : ∃ x, s[1]'(by omega) = x := ⟨_, rfl⟩
    have hq1 := HBN.out 1 (by omega)
    rw [hx1, HB1.out] at hq1
    have m1 := x1.toNat_lt
    have g2 : (2 : Int) < (s.size : Int) := by omega
    obtain ⟨x2, hx2⟩ : ∃ x, s[2]'(by omega) = x := ⟨_, rfl⟩
    have hq2 := HBN.out 2 (by omega)
    rw [hx2, HB2.out] at hq2
    have m2 := x2.toNat_lt
    by_cases y1 : x1.toNat < 128
    · subst hq1 hq2
      have HW := Lib.hid (show widR s = 0 by rw [HWD.out]; unfold widN; (repeat' split) <;> omega)
      go_enter Tryd.func78, Tryd.ntmps78
      go_wp2_with fail
      refine wp_loop_rounds 1 ?_
      rw [rounds_succ]
      go_wp2_with fail
      go_ret2
      exact ⟨⟨0, by omega, by rw [HW.out]; rfl⟩, rfl⟩
    by_cases z1 : 192 ≤ x1.toNat
    · subst hq1 hq2
      have HW := Lib.hid (show widR s = 0 by rw [HWD.out]; unfold widN; (repeat' split) <;> omega)
      go_enter Tryd.func78, Tryd.ntmps78
      go_wp2_with fail
      refine wp_loop_rounds 1 ?_
      rw [rounds_succ]
      go_wp2_with fail
      go_ret2
      exact ⟨⟨0, by omega, by rw [HW.out]; rfl⟩, rfl⟩
    by_cases y2 : x2.toNat < 128
    · subst hq1 hq2
      have HW := Lib.hid (show widR s = 0 by rw [HWD.out]; unfold widN; (repeat' split) <;> omega)
      go_enter Tryd.func78, Tryd.ntmps78
      go_wp2_with fail
      refine wp_loop_rounds 2 ?_
      rw [rounds_succ]
      go_wp2_with fail
      rw [rounds_succ]
      go_wp2_with fail
      go_ret2
      exact ⟨⟨0, by omega, by rw [HW.out]; rfl⟩, rfl⟩
    by_cases z2 : 192 ≤ x2.toNat
    · subst hq1 hq2
      have HW := Lib.hid (show widR s = 0 by rw [HWD.out]; unfold widN; (repeat' split) <;> omega)
      go_enter Tryd.func78, Tryd.ntmps78
      go_wp2_with fail
      refine wp_loop_rounds 2 ?_
      rw [rounds_succ]
      go_wp2_with fail
      rw [rounds_succ]
      go_wp2_with fail
      go_ret2
      exact ⟨⟨0, by omega, by rw [HW.out]; rfl⟩, rfl⟩
    subst hq1 hq2
    by_cases k1 : (64 * (64 * (c.toNat % 16) + x1.toNat % 64) + x2.toNat % 64) < 2048
    · have HW := Lib.hid (show widR s = 0 by rw [HWD.out]; unfold widN; (repeat' split) <;> omega)
      go_enter Tryd.func78, Tryd.ntmps78
      go_wp2_with fail
      refine wp_loop_rounds 3 ?_
      rw [rounds_succ]
      go_wp2_with fail
      rw [rounds_succ]
      go_wp2_with fail
      rw [rounds_succ]
      go_wp2_with fail
      go_ret2
      exact ⟨⟨0, by omega, by rw [HW.out]; rfl⟩, rfl⟩
    by_cases k2 : 55296 ≤ (64 * (64 * (c.toNat % 16) + x1.toNat % 64) + x2.toNat % 64) ∧ (64 * (64 * (c.toNat % 16) + x1.toNat % 64) + x2.toNat % 64) < 57344
    · obtain ⟨k3, k4⟩ := k2
      have HW := Lib.hid (show widR s = 0 by rw [HWD.out]; unfold widN; (repeat' split) <;> omega)
      go_enter Tryd.func78, Tryd.ntmps78
      go_wp2_with fail
      refine wp_loop_rounds 3 ?_
      rw [rounds_succ]
      go_wp2_with fail
      rw [rounds_succ]
      go_wp2_with fail
      rw [rounds_succ]
      go_wp2_with fail
      go_ret2
      exact ⟨⟨0, by omega, by rw [HW.out]; rfl⟩, rfl⟩
    have HW := Lib.hid (show widR s = 3 by rw [HWD.out]; unfold widN; (repeat' split) <;> omega)
    have HV := Lib.hid (show (64 * (64 * (c.toNat % 16) + x1.toNat % 64) + x2.toNat % 64) ≤ 1114111 by omega)
    go_enter Tryd.func78, Tryd.ntmps78
    go_wp2_with fail
    refine wp_loop_rounds 3 ?_
    rw [rounds_succ]
    go_wp2_with fail
    rw [rounds_succ]
    go_wp2_with fail
    rw [rounds_succ]
    go_wp2_with fail
    all_goals
      go_ret2
      exact ⟨⟨(64 * (64 * (c.toNat % 16) + x1.toNat % 64) + x2.toNat % 64), HV.out, by rw [HW.out]; simp only [Int.natCast_add, Int.natCast_mul, Int.natCast_emod]; rfl⟩, rfl⟩
  by_cases h4 : 240 ≤ c.toNat ∧ c.toNat < 248
  · obtain ⟨l1, l2⟩ := h4
    have hmd : IntKind.i64.wrap ((c.toNat : Int).tmod 8) = ((c.toNat % 8 : Nat) : Int) := by rw [Int.tmod_eq_emod_of_nonneg (by omega), IntWalk.i64_in _ (by omega)]; omega
    by_cases hn : s.size < 4
    · have hnz : (s.size : Int) < 4 := by omega
      have HW := Lib.hid (show widR s = 0 by rw [HWD.out]; unfold widN; (repeat' split) <;> omega)
      go_enter Tryd.func78, Tryd.ntmps78
      go_wp2_with fail
      go_ret2
      exact ⟨⟨0, by omega, by rw [HW.out]; rfl⟩, rfl⟩
    have hnz : ¬ (s.size : Int) < 4 := by omega
    have g1 : (1 : Int) < (s.size : Int) := by omega
    obtain ⟨x1, hx1⟩ : ∃ x, s[1]'(by omega) = x := ⟨_, rfl⟩
    have hq1 := HBN.out 1 (by omega)
    rw [hx1, HB1.out] at hq1
    have m1 := x1.toNat_lt
    have g2 : (2 : Int) < (s.size : Int) := by omega
    obtain ⟨x2, hx2⟩ : ∃ x, s[2]'(by omega) = x := ⟨_, rfl⟩
    have hq2 := HBN.out 2 (by omega)
    rw [hx2, HB2.out] at hq2
    have m2 := x2.toNat_lt
    have g3 : (3 : Int) < (s.size : Int) := by omega
    obtain ⟨x3, hx3⟩ : ∃ x, s[3]'(by omega) = x := ⟨_, rfl⟩
    have hq3 := HBN.out 3 (by omega)
    rw [hx3, HB3.out] at hq3
    have m3 := x3.toNat_lt
    by_cases y1 : x1.toNat < 128
    · subst hq1 hq2 hq3
      have HW := Lib.hid (show widR s = 0 by rw [HWD.out]; unfold widN; (repeat' split) <;> omega)
      go_enter Tryd.func78, Tryd.ntmps78
      go_wp2_with fail
      refine wp_loop_rounds 1 ?_
      rw [rounds_succ]
      go_wp2_with fail
      go_ret2
      exact ⟨⟨0, by omega, by rw [HW.out]; rfl⟩, rfl⟩
    by_cases z1 : 192 ≤ x1.toNat
    · subst hq1 hq2 hq3
      have HW := Lib.hid (show widR s = 0 by rw [HWD.out]; unfold widN; (repeat' split) <;> omega)
      go_enter Tryd.func78, Tryd.ntmps78
      go_wp2_with fail
      refine wp_loop_rounds 1 ?_
      rw [rounds_succ]
      go_wp2_with fail
      go_ret2
      exact ⟨⟨0, by omega, by rw [HW.out]; rfl⟩, rfl⟩
    by_cases y2 : x2.toNat < 128
    · subst hq1 hq2 hq3
      have HW := Lib.hid (show widR s = 0 by rw [HWD.out]; unfold widN; (repeat' split) <;> omega)
      go_enter Tryd.func78, Tryd.ntmps78
      go_wp2_with fail
      refine wp_loop_rounds 2 ?_
      rw [rounds_succ]
      go_wp2_with fail
      rw [rounds_succ]
      go_wp2_with fail
      go_ret2
      exact ⟨⟨0, by omega, by rw [HW.out]; rfl⟩, rfl⟩
    by_cases z2 : 192 ≤ x2.toNat
    · subst hq1 hq2 hq3
      have HW := Lib.hid (show widR s = 0 by rw [HWD.out]; unfold widN; (repeat' split) <;> omega)
      go_enter Tryd.func78, Tryd.ntmps78
      go_wp2_with fail
      refine wp_loop_rounds 2 ?_
      rw [rounds_succ]
      go_wp2_with fail
      rw [rounds_succ]
      go_wp2_with fail
      go_ret2
      exact ⟨⟨0, by omega, by rw [HW.out]; rfl⟩, rfl⟩
    by_cases y3 : x3.toNat < 128
    · subst hq1 hq2 hq3
      have HW := Lib.hid (show widR s = 0 by rw [HWD.out]; unfold widN; (repeat' split) <;> omega)
      go_enter Tryd.func78, Tryd.ntmps78
      go_wp2_with fail
      refine wp_loop_rounds 3 ?_
      rw [rounds_succ]
      go_wp2_with fail
      rw [rounds_succ]
      go_wp2_with fail
      rw [rounds_succ]
      go_wp2_with fail
      go_ret2
      exact ⟨⟨0, by omega, by rw [HW.out]; rfl⟩, rfl⟩
    by_cases z3 : 192 ≤ x3.toNat
    · subst hq1 hq2 hq3
      have HW := Lib.hid (show widR s = 0 by rw [HWD.out]; unfold widN; (repeat' split) <;> omega)
      go_enter Tryd.func78, Tryd.ntmps78
      go_wp2_with fail
      refine wp_loop_rounds 3 ?_
      rw [rounds_succ]
      go_wp2_with fail
      rw [rounds_succ]
      go_wp2_with fail
      rw [rounds_succ]
      go_wp2_with fail
      go_ret2
      exact ⟨⟨0, by omega, by rw [HW.out]; rfl⟩, rfl⟩
    subst hq1 hq2 hq3
    by_cases k1 : (64 * (64 * (64 * (c.toNat % 8) + x1.toNat % 64) + x2.toNat % 64) + x3.toNat % 64) < 65536
    · have HW := Lib.hid (show widR s = 0 by rw [HWD.out]; unfold widN; (repeat' split) <;> omega)
      go_enter Tryd.func78, Tryd.ntmps78
      go_wp2_with fail
      refine wp_loop_rounds 4 ?_
      rw [rounds_succ]
      go_wp2_with fail
      rw [rounds_succ]
      go_wp2_with fail
      rw [rounds_succ]
      go_wp2_with fail
      rw [rounds_succ]
      go_wp2_with fail
      go_ret2
      exact ⟨⟨0, by omega, by rw [HW.out]; rfl⟩, rfl⟩
    by_cases k2 : 1114111 < (64 * (64 * (64 * (c.toNat % 8) + x1.toNat % 64) + x2.toNat % 64) + x3.toNat % 64)
    · have HW := Lib.hid (show widR s = 0 by rw [HWD.out]; unfold widN; (repeat' split) <;> omega)
      go_enter Tryd.func78, Tryd.ntmps78
      go_wp2_with fail
      refine wp_loop_rounds 4 ?_
      rw [rounds_succ]
      go_wp2_with fail
      rw [rounds_succ]
      go_wp2_with fail
      rw [rounds_succ]
      go_wp2_with fail
      rw [rounds_succ]
      go_wp2_with fail
      go_ret2
      exact ⟨⟨0, by omega, by rw [HW.out]; rfl⟩, rfl⟩
    have HW := Lib.hid (show widR s = 4 by rw [HWD.out]; unfold widN; (repeat' split) <;> omega)
    have HV := Lib.hid (show (64 * (64 * (64 * (c.toNat % 8) + x1.toNat % 64) + x2.toNat % 64) + x3.toNat % 64) ≤ 1114111 by omega)
    go_enter Tryd.func78, Tryd.ntmps78
    go_wp2_with fail
    refine wp_loop_rounds 4 ?_
    rw [rounds_succ]
    go_wp2_with fail
    rw [rounds_succ]
    go_wp2_with fail
    rw [rounds_succ]
    go_wp2_with fail
    rw [rounds_succ]
    go_wp2_with fail
    all_goals
      go_ret2
      exact ⟨⟨(64 * (64 * (64 * (c.toNat % 8) + x1.toNat % 64) + x2.toNat % 64) + x3.toNat % 64), HV.out, by rw [HW.out]; simp only [Int.natCast_add, Int.natCast_mul, Int.natCast_emod]; rfl⟩, rfl⟩
  have hno : (128 ≤ c.toNat ∧ c.toNat < 192) ∨ 248 ≤ c.toNat := by omega
  clear h2 h3 h4
  rcases hno with ⟨l1, l2⟩ | l1
  · have HW := Lib.hid (show widR s = 0 by rw [HWD.out]; unfold widN; (repeat' split) <;> omega)
    go_enter Tryd.func78, Tryd.ntmps78
    go_wp2_with fail
    go_ret2
    exact ⟨⟨0, by omega, by rw [HW.out]; rfl⟩, rfl⟩
  · have HW := Lib.hid (show widR s = 0 by rw [HWD.out]; unfold widN; (repeat' split) <;> omega)
    go_enter Tryd.func78, Tryd.ntmps78
    go_wp2_with fail
    go_ret2
    exact ⟨⟨0, by omega, by rw [HW.out]; rfl⟩, rfl⟩
end Go.Proofs.YtcfbmfcobpfcjaaDoor
