/- FnExactMax answers true, for all two numbers that an int holds. -/
import Derived.Test.YtncenfihphdipaaPFnExactMaxx1
set_option linter.unusedVariables false
set_option linter.unusedSimpArgs false
namespace Go.Proofs.Ytncenfihphdipaa.Pure
open Go.RowKit Go.Proofs.Ytncenfihphdipaa.PFnExactMax Go.Proofs.YtncenfihphdipaaW.PrintWords Go.Proofs.YtncenfihphdipaaW.PrintLast Go.Proofs.YtncenfihphdipaaW.PrintMore

theorem FnExactMax : laws_FnExactMax.Pure := by
  intro a b _ _
  unfold laws_FnExactMax.f spec_Max.f impl_Max.f mx
  by_cases h : a < b <;> simp [h]

end Go.Proofs.Ytncenfihphdipaa.Pure
