/- Calls that come in, read out of what a law is handed. -/
import Derived.Test.YtbgdkpgegbkfkaaPlOps
namespace Go.Proofs.Ytbgdkpgegbkfkaa
open Go.ChangeShapes Go.WideShapes Go.ChangeAt Go.RowKit Lift
open Go.ChangeMaps (open_string shut_string)
set_option linter.unusedSimpArgs false
set_option linter.unusedVariables false

theorem at_30 : (Rd.int .i64).slice.at Try.prog 30 := Rd.at_slice Try.underlying30 (by kernel_rfl) (Rd.at_int Try.underlying3 (by kernel_rfl)) (by decide)
theorem rOp_at : rOp.at Try.prog 38 :=
  Rd.at_struct Try.underlying38 (by kernel_rfl) (Rd.atF_cons (Rd.at_int Try.underlying3 (by kernel_rfl)) rfl (Rd.atF_cons (Rd.at_int Try.underlying3 (by kernel_rfl)) rfl (Rd.atF_cons (Rd.at_str Try.underlying9 (by kernel_rfl)) rfl (Rd.atF_one at_30 rfl))))
theorem at_35 : rOp.slice.at Try.prog 35 := Rd.at_slice Try.underlying35 (by kernel_rfl) rOp_at (by decide)
end Go.Proofs.Ytbgdkpgegbkfkaa
