/- Pending. -/
import Derived.Test.YtdkndcmjcmeddaaAu5
namespace Go.Proofs.Ytdkndcmjcmeddaa
open Go.RowKit Lift
set_option linter.unusedSimpArgs false
set_option linter.unusedVariables false



def dueI (c : Rec) : Int := if c.2.1 then (if c.2.2.2.2.1 = 0 then 1 else if c.2.2.1 ≠ c.2.2.2.2.2.1 then 2 else 0) else if 0 < c.2.2.2.2.1 then 3 else 0
def isDue (c : Rec) : Bool := decide (dueI c ≠ 0)
theorem due_any (c : Rec) (w : World) : Calls Try.prog 41 #[encRec c] w (BelowPost (.int .i64 (dueI c)) w) := by
  unfold encRec dueI
  cases hv : c.2.1 with
  | true =>
    obtain ⟨E, hE⟩ : ∃ E, (if true = true then (if c.2.2.2.2.1 = 0 then 1 else if c.2.2.1 ≠ c.2.2.2.2.2.1 then 2 else 0) else if 0 < c.2.2.2.2.1 then 3 else 0 : Int) = E := ⟨_, rfl⟩
    rw [hE]
    have HE := Lib.hid hE
    clear hE
    go_enter Try.func41, Try.ntmps41
    go_wp2_with fail
    all_goals (go_ret; refine ⟨ret_int ?_, (Below.refl _ _).alloc (Nat.le_refl _) _⟩; rw [← HE.out]; clear HE; simp_all)
  | false =>
    obtain ⟨E, hE⟩ : ∃ E, (if false = true then (if c.2.2.2.2.1 = 0 then 1 else if c.2.2.1 ≠ c.2.2.2.2.2.1 then 2 else 0) else if 0 < c.2.2.2.2.1 then 3 else 0 : Int) = E := ⟨_, rfl⟩
    rw [hE]
    have HE := Lib.hid hE
    clear hE
    go_enter Try.func41, Try.ntmps41
    go_wp2_with fail
    all_goals (go_ret; refine ⟨ret_int ?_, (Below.refl _ _).alloc (Nat.le_refl _) _⟩; rw [← HE.out]; clear HE; simp_all)
set_option maxHeartbeats 1000000 in
set_option maxRecDepth 100000 in
theorem pend1 (B : Nat) (W : World) : PredOf okEnt encEnt 39 [] (fun c => decide (0 < c.2.1)) B W := by
  refine ⟨fun args w => by kernel_rfl, fun w c hok hb => ?_⟩
  clear hb
  show Calls Try.prog 39 #[encEnt c] w _
  unfold encEnt
  go_enter Try.func39, Try.ntmps39
  go_wp2_with fail
  go_ret
  exact ⟨ret_bool (by simp), (Below.refl _ _).alloc (Nat.le_refl _) _⟩
set_option maxHeartbeats 1000000 in
set_option maxRecDepth 100000 in
theorem pend2 (B : Nat) (W : World) : PredOf okRec encRec 40 [] isDue B W := by
  refine ⟨fun args w => by kernel_rfl, fun w c hok hb => ?_⟩
  clear hb
  have hb1 : Below w.heap.size w (w.alloc (.cells (cellsRec c).toArray 39)) := (Below.refl _ _).alloc (Nat.le_refl _) _
  have HO := Lib.hid (due_any c (w.alloc (.cells (cellsRec c).toArray 39)))
  show Calls Try.prog 40 #[encRec c] w _
  unfold isDue
  generalize dueI c = d at *
  unfold encRec
  go_enter Try.func40, Try.ntmps40
  go_wp2_with fail
  refine HO.out.mono ?_
  rintro e w3 ⟨rfl, hb3⟩
  go_wp2_with fail
  go_ret
  exact ⟨ret_bool (by simp [bne]; try (by_cases h : d = 0 <;> simp [h])), chain hb1 hb3⟩
end Go.Proofs.Ytdkndcmjcmeddaa
