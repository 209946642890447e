/- The anchor of chapter 7: what a few texts are. -/
import Derived.Test.YtclcahkgeaediaaDoorWhole3
namespace Go.Proofs.YtclcahkgeaediaaDoor
open Go.RowKit Lift
set_option linter.unusedSimpArgs false
set_option linter.unusedVariables false

def sumN (n : Int) (x : NL) : Int := wrap64 (n + wrap64 ((x.1 : Int) * (x.2.size : Int)))
set_option maxHeartbeats 1000000 in
set_option maxRecDepth 100000 in
theorem works1_any (b : Nat) (n : Int) (x : NL) (w : World) (hc : w.cell? ⟨b, 0, none⟩ = some (.int .i64 n)) (hf : w.frozen? ⟨b, 0, none⟩ = false) (hb : b < w.heap.size) :
    Calls Tryd.prog 19 #[.int .i64 x.1, .string x.2, .pointer (some ⟨b, 0, none⟩)] w fun e w' => e = .returned (.bool true) ∧ w.setCell ⟨b, 0, none⟩ (.int .i64 (sumN n x)) = w' := by
  unfold sumN
  go_enter Tryd.func19, Tryd.ntmps19
  go_wp2_with fail
  go_ret
  exact ⟨rfl, rfl⟩
end Go.Proofs.YtclcahkgeaediaaDoor
