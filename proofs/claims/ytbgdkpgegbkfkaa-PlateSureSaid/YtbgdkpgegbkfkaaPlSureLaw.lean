/- PlateSure holds: what was made sure, and not written since, is there behind a crash; a crash that keeps all is as a sync. No condition. -/
import Derived.Test.YtbgdkpgegbkfkaaPlSure
import Derived.Test.YtbgdkpgegbkfkaaPlOpsAt
namespace Go.Proofs.Ytbgdkpgegbkfkaa
open Go.ChangeShapes Go.WideShapes Go.ChangeAt Go.RowKit Lift
open Go.ChangeMaps (open_string shut_string)
set_option linter.unusedSimpArgs false
set_option linter.unusedVariables false

theorem sure_own : ownKnob Try.prog.godebug = none := by kernel_rfl
theorem sure_laid : laidOutB Try.prog = true := by kernel_rfl

set_option maxRecDepth 100000 in
theorem sure_lifted (os : Os) (started : os.Started) (H : Type) (enc : TypeId × Value → H) :
    ReturnsInHanded {} Try.checked os 4 .any (Rows.plateSureSpec.pre6 enc Try.prog Try.f4 Rows.plateSureRow.domain false) (Rows.plateSureSpec.post enc Try.prog Try.f4 false true false false) := by
  refine law_lifted (C := Try.checked) 4 sure_own started (by kernel_rfl) Try.func4 sure_laid rfl (by kernel_rfl) Try.underlying4 (by kernel_rfl)
    (fun ds h => by match ds, h with | [_, _, _], _ => rfl)
    (ChangeSpec.witness6 (enc := enc) (C := Try.checked) false ⟨#[], #[.slice none 0 0, .slice none 0 0, .int .i64 0], []⟩ 8 (by kernel_rfl) (by kernel_rfl) (by kernel_rfl) (by kernel_rfl)) ?_
  intro W base args ds p hval0 hA0 hfz hz0
  have hz : ∀ (j : Nat) t d, Try.f4.params.toList[j]? = some t → ds[j]? = some d → ∀ n ∈ d.weights Try.prog t, n ≤ reachBytes := hz0
  have hval : ∀ (j : Nat) t v, Try.f4.params[j]? = some t → args[j]? = some v → Value.okWide Try.prog W .any base t v := hval0
  have hA : DataW.TrodAll enc Try.prog W 0 (fun _ => true) true Try.f4.params.toList args.toList ds p := hA0
  rw [Try.params4] at hA hval
  obtain ⟨v0, vs0, d0, ds0, p0, q0, hargs, rfl, rfl, h0, r0⟩ := trodAll_cons hA
  obtain ⟨v1, vs1, d1, ds1, p1, q1, rfl, rfl, rfl, h1, r1⟩ := trodAll_cons r0
  obtain ⟨v2, vs2, d2, ds2, p2, q2, rfl, rfl, rfl, h2, r2⟩ := trodAll_cons r1
  obtain ⟨rfl, rfl, rfl⟩ := trodAll_nil r2
  obtain rfl : args = #[v0, v1, v2] := by cases args; simp_all
  obtain ⟨l0, ao0, cap0, rfl, c0⟩ := Rd.arg_slice at_35 Try.underlying35 (hval 0 35 v0 rfl rfl) h0 (hz 0 35 d0 rfl rfl)
  obtain ⟨l1, ao1, cap1, rfl, c1⟩ := Rd.arg_slice at_30 Try.underlying30 (hval 1 30 v1 rfl rfl) h1 (hz 1 30 d1 rfl rfl)
  obtain ⟨a2, rfl, _, _, w2⟩ := open_int Try.underlying3 (hval 2 3 v2 rfl rfl) h2
  exact law_sure ao0 cap0 l0 ao1 cap1 l1 a2 w2 W c0 c1

theorem sure_holds : Rows.PlateSureSaid :=
  OpenClaim.holds_of_wide 4 Try.f4 rfl rfl rfl rfl rfl rfl rfl ⟨rfl, rfl, rfl, rfl, rfl⟩ rfl rfl rfl rfl rfl (by kernel_rfl) Try.func4 (by kernel_rfl)
    (of_decide_eq_true (by kernel_rfl)) (by unfold Func.isWrapper; rw [if_neg (of_decide_eq_false (by kernel_rfl))]; exact ⟨rfl, rfl⟩)
    (fun os started H enc _ => sure_lifted os started H enc)

end Go.Proofs.Ytbgdkpgegbkfkaa
