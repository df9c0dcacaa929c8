/- FnExactMin answers true, for all two numbers that an int holds. -/
import Derived.Test.YtncenfihphdipaaPFnExactMinx1
set_option linter.unusedVariables false
set_option linter.unusedSimpArgs false
namespace Go.Proofs.Ytncenfihphdipaa.Pure
open Go.RowKit Go.Proofs.Ytncenfihphdipaa.PFnExactMin Go.Proofs.YtncenfihphdipaaW.PrintWords Go.Proofs.YtncenfihphdipaaW.PrintLast Go.Proofs.YtncenfihphdipaaW.PrintMore

theorem FnExactMin : laws_FnExactMin.Pure := by
  intro a b _ _
  unfold laws_FnExactMin.f spec_Min.f impl_Min.f mn
  by_cases h : b < a <;> simp [h]

end Go.Proofs.Ytncenfihphdipaa.Pure
