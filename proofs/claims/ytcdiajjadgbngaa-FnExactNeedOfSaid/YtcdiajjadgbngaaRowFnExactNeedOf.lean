/- The row of FnExactNeedOf: whatever the input, it returns true, and the input reads as it did. FnExactNeedOf answers true, for each list of members. -/
import Derived.Test.YtcdiajjadgbngaaRows
import Derived.Test.YtcdiajjadgbngaaPFnExactNeedOfx5
import Derived.Test.YtcdiajjadgbngaaPureFnExactNeedOf
import Derived.WalkKit
import Derived.ProofKit
import Derived.OpenShut
import Derived.ShutString
import Derived.ChangeOld
import Derived.Below
import Derived.SizedLaws
import Derived.Test.YtcdiajjadgbngaaOpen
namespace Go.Proofs.Ytcdiajjadgbngaa.fnExactNeedOf
open Go.ChangeShapes Go.WideShapes Go.ChangeAt Go.RowKit Go.Proofs.YtcdiajjadgbngaaW.PrintWords
open Go.ChangeMaps (open_string shut_string)
set_option linter.unusedVariables false
theorem own : ownKnob Try.prog.godebug = none := by kernel_rfl
theorem laidOut : laidOutB Try.prog = true := by kernel_rfl
set_option maxRecDepth 100000 in
theorem lifted (os : Os) (started : os.Started) (H : Type) (enc : TypeId × Value → H) :
    ReturnsInHanded {} Try.checked os 12 .any (Rows.fnExactNeedOfSpec.pre6 enc Try.prog Try.f12 Rows.fnExactNeedOfRow.domain false) (Rows.fnExactNeedOfSpec.post enc Try.prog Try.f12 false true false false) := by
  refine returnsInHanded_of_change_sized (C := Try.checked) own started (by kernel_rfl) Try.func12
    (ChangeSpec.witness6 (enc := enc) (C := Try.checked) false ⟨#[], #[.slice none 0 0], []⟩ 8 (by kernel_rfl) (by kernel_rfl) (by kernel_rfl) (by kernel_rfl)) ?_
  intro W base args ds gs before hval0 hW hcnd hsz0 _
  have hval : ∀ (j : Nat) t v, Try.f12.params[j]? = some t → args[j]? = some v → Value.okWide Try.prog W .any base t v := hval0
  have hW' := hW
  obtain ⟨p, q, hA0, hV, rfl, hfz, hnd⟩ := hW
  have hA : DataW.TrodAll enc Try.prog W 0 (fun _ => true) true Try.f12.params.toList args.toList ds p := hA0
  rw [Try.params12] at hA hval
  obtain ⟨v0, vs0, d0, ds0, p0, q0, hargs, rfl, rfl, h0, r0⟩ := trodAll_cons hA
  obtain ⟨rfl, rfl, rfl⟩ := trodAll_nil r0
  obtain rfl : args = #[v0] := by cases args; simp_all
  obtain ⟨rfl, rfl⟩ := trodVars_none hV
  have k0 := h0
  have lt0 : ∀ x ∈ p0, x.block < W.heap.size := by obtain ⟨m, hm⟩ := k0; exact DataW.trod_lt m _ _ _ hm
  obtain ⟨A0, len0, c0, rfl⟩ := okWide_slice Try.underlying22 (hval 0 22 v0 rfl rfl)
  obtain ⟨F0, hl0, hb0, hF0⟩ := Open.members_of Try.underlying22 Try.underlying71 rfl rfl rfl rfl Try.underlying3 Try.underlying4 (by kernel_rfl) (by kernel_rfl) h0
  obtain ⟨l0, rfl, hr0⟩ : ∃ l : List PFnExactNeedOf.S71, len0 = l.length ∧ Kd.C PFnExactNeedOf.k71 W A0 l.length l := by
    refine ⟨(List.range len0).map fun j => ⟨(F0 j).1, (F0 j).2.1, (F0 j).2.2.1, (F0 j).2.2.2⟩, by simp, by simp, by simpa using hb0, fun hn => ?_⟩
    obtain ⟨ad, rfl, hcell⟩ := hF0 (by simpa using hn)
    refine ⟨ad, rfl, fun j x hj => ?_⟩
    obtain ⟨hj1, hj2⟩ := List.getElem?_eq_some_iff.1 hj
    have hjl : j < len0 := by simpa using hj1
    have hx : x = ⟨(F0 j).1, (F0 j).2.1, (F0 j).2.2.1, (F0 j).2.2.2⟩ := by rw [← hj2]; simp
    subst hx
    exact ⟨_, rfl, PFnExactNeedOf.k71_mk _ _, fun m u hu => hcell j hjl m u hu⟩
  clear hA0 hval0 hsz0
  obtain ⟨k, hk⟩ := Pure.FnExactNeedOf l0 hr0.2.1
  refine (PFnExactNeedOf.laws_FnExactNeedOf.calls (k := k) (r := true) (w := W) (hr0 := hr0) (hc0 := hl0) (h := hk)).mono fun e W' ⟨he, bel⟩ => ?_
  subst he
  exact ⟨_, rfl, _, _, _, [], _, [], hW', trodAll_mk1 (shut_bool Try.underlying4 _), (trodAll_cons_mk (Below.trod laidOut (by kernel_rfl) (of_decide_eq_true (by kernel_rfl)) k0 bel lt0) trodAll_mk0), rfl, bel.frame _, fun h => by cases h⟩
theorem over : Rows.fnExactNeedOfRow.holds Try.pinned (OpenSpec.ofChange Rows.fnExactNeedOfSpec) :=
  OpenClaim.holds_of_wide 12 Try.f12 rfl rfl rfl rfl rfl rfl rfl ⟨rfl, rfl, rfl, rfl, rfl⟩ rfl rfl rfl rfl rfl (by kernel_rfl) Try.func12 (by kernel_rfl)
    (of_decide_eq_true (by kernel_rfl)) (by unfold Func.isWrapper; first | (rw [if_pos (by decide +kernel)]; kernel_rfl) | (rw [if_neg (by decide +kernel)]; exact ⟨rfl, rfl⟩))
    (fun os started H enc _ => lifted os started H enc)
theorem proved : Rows.FnExactNeedOfSaid := over
#print axioms proved
end Go.Proofs.Ytcdiajjadgbngaa.fnExactNeedOf
namespace Go.Proofs.Ytcdiajjadgbngaa
/-- The row, under a short name, for the claim. -/
theorem fnExactNeedOf_holds : Rows.FnExactNeedOfSaid := fnExactNeedOf.proved
end Go.Proofs.Ytcdiajjadgbngaa
