/- FnExactMod answers true, for all two numbers that an int holds. -/
import Derived.Test.YtncenfihphdipaaPFnExactModx1
set_option linter.unusedVariables false
set_option linter.unusedSimpArgs false
namespace Go.Proofs.Ytncenfihphdipaa.Pure
open Go.RowKit Go.Proofs.Ytncenfihphdipaa.PFnExactMod Go.Proofs.YtncenfihphdipaaW.PrintWords Go.Proofs.YtncenfihphdipaaW.PrintLast Go.Proofs.YtncenfihphdipaaW.PrintMore

theorem wrapS {x : Int} (h1 : -9223372036854775808 ≤ x) (h2 : x ≤ 9223372036854775807) : wrap64 x = x := by
  unfold wrap64
  omega
theorem i64wf {x : Int} (h : (Lit.int .i64 x).wf = true) : -9223372036854775808 ≤ x ∧ x ≤ 9223372036854775807 := by
  have h1 : (decide (IntKind.i64.min ≤ x) && decide (x ≤ IntKind.i64.max)) = true := h
  rw [Bool.and_eq_true, decide_eq_true_eq, decide_eq_true_eq] at h1
  exact h1
theorem u8wf {x : Int} (h : (Lit.int .u8 x).wf = true) : 0 ≤ x ∧ x ≤ 255 := by
  have h1 : (decide (IntKind.u8.min ≤ x) && decide (x ≤ IntKind.u8.max)) = true := h
  rw [Bool.and_eq_true, decide_eq_true_eq, decide_eq_true_eq] at h1
  exact h1
/-- What is told of some number of rounds is told of any three together. -/
theorem evNow {α : Type} {g : Option α} {r : α} (h : g = some r) : Ev (fun _ => g) r := ⟨0, fun _ _ => h⟩

theorem impl_InRange_is (a b c : Int) : impl_InRange.f a b c = some (decide (b ≤ a ∧ a ≤ c)) := by
  unfold impl_InRange.f
  by_cases h : b ≤ a <;> simp [h]

theorem spec_l1In_is (a b c : Int) : spec_l1In.f a b c = some (decide (b ≤ a ∧ a ≤ c)) := by
  unfold spec_l1In.f
  by_cases h : b ≤ a <;> simp [h]

theorem FnExactMod : laws_FnExactMod.Pure := by
  intro a b _ _
  have h : impl_Mod.f a b = spec_Mod.f a b := by
    unfold impl_Mod.f spec_Mod.f
    simp only [impl_InRange_is, spec_l1In_is]
  obtain ⟨r, hr⟩ : ∃ r, spec_Mod.f a b = some r := by
    unfold spec_Mod.f
    simp only [spec_l1In_is, Option.bind_some]
    split
    · rename_i h2
      have h2' := of_decide_eq_true h2
      rw [if_neg (by omega)]
      exact ⟨_, rfl⟩
    · exact ⟨_, rfl⟩
  unfold laws_FnExactMod.f
  rw [h, hr]
  simp

end Go.Proofs.Ytncenfihphdipaa.Pure
