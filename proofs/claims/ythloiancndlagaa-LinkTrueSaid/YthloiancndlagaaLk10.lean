/- The link law's works. -/
import Derived.Test.YthloiancndlagaaLk9
namespace Go.Proofs.Ythloiancndlagaa
open Go.RowKit Lift Crc
set_option linter.unusedSimpArgs false
set_option linter.unusedVariables false

def sA : ByteArray := ⟨#[97]⟩
def pA : Pk := (sealS sA, false)
def pB : Pk := (turnT (sealS sA) 0 1, true)
theorem atN_zero (n : Nat) : atN 0 n = 0 := by unfold atN; rw [show IntKind.u64.wrap 0 = 0 from by decide]; simp
theorem open_pA : openB (sealS sA) = true ∧ openS (sealS sA) = sA := open_seal sA
theorem open_pB : openB (turnT (sealS sA) 0 1) = false := by
  unfold turnT
  exact one_seen (sealS sA) open_pA.1 _ (by rw [atN_zero, seal_size]; omega) 1 (by decide)
theorem opens_pB : openS (turnT (sealS sA) 0 1) = ⟨#[]⟩ := by unfold openS; rw [open_pB]; rfl
theorem w_send : sendL 3 [] sA = [pA] ∧ sendE 3 [] sA = 0 := ⟨rfl, rfl⟩
theorem w_twice : twiceL 3 0 [pA] = [pA, pA] ∧ twiceE 3 [pA] = 0 := by
  constructor
  · show putL 3 [pA] (goneP 0 [pA]) = _
    unfold goneP; rw [atN_zero]; rfl
  · rfl
theorem w_gp (a b : Pk) : goneP 0 [a, b] = a := by unfold goneP; rw [atN_zero]; rfl
theorem w_gp1 (a : Pk) : goneP 0 [a] = a := by unfold goneP; rw [atN_zero]; rfl
theorem w_turn : turnL 0 0 1 [pA, pA] = [pB, pA] ∧ turnE 0 1 [pA, pA] = 0 := by
  constructor
  · unfold turnL; rw [w_gp, atN_zero]; rfl
  · unfold turnE; rw [w_gp]; rfl
theorem w_take1 : goneL 0 [pB, pA] = [pA] ∧ goneE [pB, pA] = 0 ∧ takeS 0 [pB, pA] = ⟨#[]⟩ ∧ takeB 0 [pB, pA] = false := by
  refine ⟨by unfold goneL; rw [atN_zero]; rfl, rfl, ?_, ?_⟩
  · unfold takeS; rw [w_gp]; exact opens_pB
  · unfold takeB; rw [w_gp]; exact open_pB
theorem w_take2 : goneL 0 [pA] = [] ∧ goneE [pA] = 0 ∧ takeS 0 [pA] = sA ∧ takeB 0 [pA] = true := by
  refine ⟨by unfold goneL; rw [atN_zero]; rfl, rfl, ?_, ?_⟩
  · unfold takeS; rw [w_gp1]; exact open_pA.2
  · unfold takeB; rw [w_gp1]; exact open_pA.1
theorem ok_pA : 2 ≤ pA.1.size ∧ pA.1.size ≤ 12002 := by show 2 ≤ (sealS sA).size ∧ _; show _ ∧ (sealS sA).size ≤ 12002; rw [seal_size]; decide
theorem ok_pB : 2 ≤ pB.1.size ∧ pB.1.size ≤ 12002 := by show 2 ≤ (turnT (sealS sA) 0 1).size ∧ (turnT (sealS sA) 0 1).size ≤ 12002; rw [turn_size, seal_size]; decide
theorem low_next {B b : Nat} {v v' : Value} {w w' : World} (h : ∀ k, foot b v k → B ≤ k) (hB : B ≤ w.heap.size) (hK : Kept (foot b v) w w') (hf : ∀ k, foot b v' k → foot b v k ∨ w.heap.size ≤ k) : (∀ k, foot b v' k → B ≤ k) ∧ Below B w w' :=
  ⟨fun k hk => (hf k hk).elim (h k) (fun h => by omega), hK.below hB h⟩
set_option maxHeartbeats 4000000 in
set_option maxRecDepth 100000 in
theorem works_any (w : World) : Calls Try.prog 5 #[] w (BelowPost (.bool true) w) := by
  have HN := Lib.hid (new_yes 3 (by decide) (by decide) w)
  have hm := Lk.made 55 51 3 w
  obtain ⟨W1, hW1⟩ : ∃ W1, w.alloc (.cells #[.int .i64 (3 : Nat), .slice none 0 0] 51) = W1 := ⟨_, rfl⟩
  have hb1 : Below w.heap.size w W1 := by rw [← hW1]; exact (Below.refl _ _).alloc (Nat.le_refl _) _
  rw [hW1] at hm
  have hne : ¬ (w.heap.size = 0 ∧ False) := by simp
  go_enter Try.func5, Try.ntmps5
  go_wp2_with fail
  refine HN.out.mono ?_
  rintro e w1 ⟨rfl, rfl⟩
  rw [show w.alloc (.cells #[.int .i64 3, .slice none 0 0] 51) = W1 from hW1]
  clear hW1
  go_wp2_with fail
  have h1 := send_any (room := 3) sA (by decide) hm
  rw [w_send.1, w_send.2] at h1
  refine h1.mono ?_
  rintro e w2 ⟨rfl, v2, hL2, hK2, hf2⟩
  go_wp2_with fail
  have h2 := twice_any (room := 3) 0 (by decide) hL2
  rw [w_twice.1, w_twice.2] at h2
  refine h2.mono ?_
  rintro e w3 ⟨rfl, v3, hL3, hK3, hf3⟩
  go_wp2_with fail
  have h3 := turn_any (room := 3) 0 0 1 (by intro p hp; simp at hp; subst hp; exact ok_pA) hL3
  rw [w_turn.1, w_turn.2] at h3
  refine h3.mono ?_
  rintro e w4 ⟨rfl, v4, hL4, hK4, hf4⟩
  go_wp2_with fail
  have h4 := take_any (room := 3) 0 (by intro p hp; simp at hp; rcases hp with rfl | rfl; exact ok_pB.2; exact ok_pA.2) hL4
  rw [w_take1.1, w_take1.2.1, w_take1.2.2.1, w_take1.2.2.2] at h4
  refine h4.mono ?_
  rintro e w5 ⟨rfl, v5, hL5, hK5, hf5⟩
  go_wp2_with fail
  have h5 := take_any (room := 3) 0 (by intro p hp; simp at hp; subst hp; exact ok_pA.2) hL5
  rw [w_take2.1, w_take2.2.1, w_take2.2.2.1, w_take2.2.2.2] at h5
  refine h5.mono ?_
  rintro e w6 ⟨rfl, v6, hL6, hK6, hf6⟩
  have h6 := len_any hL6
  unfold sA
  go_wp2_with (first | (refine h6.mono ?_; rintro e w7 ⟨rfl, rfl⟩))
  go_ret
  have l1 : ∀ k, foot w.heap.size (.slice none 0 0) k → w.heap.size ≤ k := by
    intro k hk
    rcases hk with rfl | hk
    · exact Nat.le_refl _
    · cases hk
  obtain ⟨l2, q2⟩ := low_next l1 hb1.size hK2 hf2
  have s2 := hb1.trans q2
  obtain ⟨l3, q3⟩ := low_next l2 s2.size hK3 hf3
  have s3 := s2.trans q3
  obtain ⟨l4, q4⟩ := low_next l3 s3.size hK4 hf4
  have s4 := s3.trans q4
  obtain ⟨l5, q5⟩ := low_next l4 s4.size hK5 hf5
  have s5 := s4.trans q5
  obtain ⟨l6, q6⟩ := low_next l5 s5.size hK6 hf6
  exact ⟨rfl, s5.trans q6⟩
end Go.Proofs.Ythloiancndlagaa
