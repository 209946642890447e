/- LedgerTells holds: what is wrong with a log, and an item's last change. No condition. -/
import Derived.Test.YtkmkedmefhmnaaaLTell
namespace Go.Proofs.Ytkmkedmefhmnaaa
open Go.ChangeShapes Go.WideShapes Go.ChangeAt Go.RowKit Lift
set_option linter.unusedSimpArgs false
set_option linter.unusedVariables false

theorem rChg_at : rChg.at Try.prog 28 :=
  Rd.at_struct Try.underlying28 (by kernel_rfl) (Rd.atF_cons (Rd.at_int Try.underlying3 (by kernel_rfl)) rfl (Rd.atF_cons (Rd.at_int Try.underlying3 (by kernel_rfl)) rfl (Rd.atF_one (Rd.at_int Try.underlying3 (by kernel_rfl)) rfl)))
theorem at_22 : rChg.slice.at Try.prog 22 := Rd.at_slice Try.underlying22 (by kernel_rfl) rChg_at (by decide)
theorem at_33 : (Rd.int .i64).slice.at Try.prog 33 := Rd.at_slice Try.underlying33 (by kernel_rfl) (Rd.at_int Try.underlying3 (by kernel_rfl)) (by decide)

theorem tells_own : ownKnob Try.prog.godebug = none := by kernel_rfl
theorem tells_laid : laidOutB Try.prog = true := by kernel_rfl

set_option maxRecDepth 100000 in
theorem tells_lifted (os : Os) (started : os.Started) (H : Type) (enc : TypeId × Value → H) :
    ReturnsInHanded {} Try.checked os 4 .any (Rows.ledgerTellsSpec.pre6 enc Try.prog Try.f4 Rows.ledgerTellsRow.domain false) (Rows.ledgerTellsSpec.post enc Try.prog Try.f4 false true false false) := by
  refine law_lifted (C := Try.checked) 4 tells_own started (by kernel_rfl) Try.func4 tells_laid rfl (by kernel_rfl) Try.underlying4 (by kernel_rfl)
    (fun ds h => by match ds, h with | [_, _], _ => rfl)
    (ChangeSpec.witness6 (enc := enc) (C := Try.checked) false ⟨#[], #[.slice none 0 0, .int .i64 0], []⟩ 8 (by kernel_rfl) (by kernel_rfl) (by kernel_rfl) (by kernel_rfl)) ?_
  intro W base args ds p hval0 hA0 hfz hz0
  have hz : ∀ (j : Nat) t d, Try.f4.params.toList[j]? = some t → ds[j]? = some d → ∀ n ∈ d.weights Try.prog t, n ≤ reachBytes := hz0
  have hval : ∀ (j : Nat) t v, Try.f4.params[j]? = some t → args[j]? = some v → Value.okWide Try.prog W .any base t v := hval0
  have hA : DataW.TrodAll enc Try.prog W 0 (fun _ => true) true Try.f4.params.toList args.toList ds p := hA0
  rw [Try.params4] at hA hval
  obtain ⟨v0, vs0, d0, ds0, p0, q0, hargs, rfl, rfl, h0, r0⟩ := trodAll_cons hA
  obtain ⟨v1, vs1, d1, ds1, p1, q1, rfl, rfl, rfl, h1, r1⟩ := trodAll_cons r0
  obtain ⟨rfl, rfl, rfl⟩ := trodAll_nil r1
  obtain rfl : args = #[v0, v1] := by cases args; simp_all
  obtain ⟨l0, ao0, cap0, rfl, c0⟩ := Rd.arg_slice at_22 Try.underlying22 (hval 0 22 v0 rfl rfl) h0 (hz 0 22 d0 rfl rfl)
  obtain ⟨a1, rfl, _, _, w1⟩ := open_int Try.underlying3 (hval 1 3 v1 rfl rfl) h1
  exact law_tells ao0 cap0 l0 a1 w1 W c0

theorem tells_holds : Rows.LedgerTellsSaid :=
  OpenClaim.holds_of_wide 4 Try.f4 rfl rfl rfl rfl rfl rfl rfl ⟨rfl, rfl, rfl, rfl, rfl⟩ rfl rfl rfl rfl rfl (by kernel_rfl) Try.func4 (by kernel_rfl)
    (of_decide_eq_true (by kernel_rfl)) (by unfold Func.isWrapper; rw [if_neg (of_decide_eq_false (by kernel_rfl))]; exact ⟨rfl, rfl⟩)
    (fun os started H enc _ => tells_lifted os started H enc)

end Go.Proofs.Ytkmkedmefhmnaaa
