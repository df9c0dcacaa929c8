-- Laid by a program of this session, out of the translation; Lean checks it.
import Derived.Test.YtncenfihphdipaaQFnWaysx0
import Derived.Test.YtncenfihphdipaaQFnWaysx1
import Derived.Test.YtncenfihphdipaaQFnWaysx2
import Derived.Test.YtncenfihphdipaaQFnWaysx3
import Derived.Test.YtncenfihphdipaaQFnWaysx4
import Derived.Test.YtncenfihphdipaaQFnWaysx5
import Derived.Test.YtncenfihphdipaaQFnWaysx6
import Derived.Test.YtncenfihphdipaaQFnWaysx7
import Derived.Test.YtncenfihphdipaaQFnWaysx8
import Derived.Test.YtncenfihphdipaaQFnWaysx9
namespace Go.Proofs.Ytncenfihphdipaa.QFnWays
open Go.RowKit Go.Proofs.YtncenfihphdipaaW.PrintWords Go.Proofs.YtncenfihphdipaaW.PrintLast Go.Proofs.YtncenfihphdipaaW.PrintMore
attribute [local go_sem] max2_int min2_int max_two min_two max_three min_three max_four min_four   -- for this text's walks alone
set_option linter.unusedVariables false
set_option linter.unusedSimpArgs false

/-! ### laws_FnWays: function 9 -/
mutual
def laws_FnWays.j0 : Nat → List Int → Int → Int → Int → List Int → Bool → Int → Int → List Int → Option (Bool)
  | 0, _, _, _, _, _, _, _, _, _ => none
  | k + 1, x0, x4, x5, x6, x7, x88, x403000, x403001, x403002 => if x88 = true then (some false) else (laws_FnWays.l0 k x0 x4 x5 x6 x7 0 x403000 x403001 x403002)
def laws_FnWays.l0 : Nat → List Int → Int → Int → Int → List Int → Int → Int → Int → List Int → Option (Bool)
  | 0, _, _, _, _, _, _, _, _, _ => none
  | k + 1, x0, x4, x5, x6, x7, x8, x403000, x403001, x403002 => if x8 < (x7.length : Int) then (if 0 ≤ x8 then ((impl_Days.f k x403000 x403001 x403002 (rd x7 x8) x5).bind fun t413 => (if t413 = (wrap64 (x6 - x8)) then ((impl_WayTo.f k x403000 x403001 x403002 (rd x7 x8) x5).bind fun t415 => (if x8 ≤ (x7.length : Int) then ((laws_sameInts.f k t415 (x7.drop (x8 : Int).toNat)).bind fun t422 => (if t422 = true then (laws_FnWays.l0 k x0 x4 x5 x6 x7 (wrap64 (x8 + 1)) x403000 x403001 x403002) else (some false))) else (none))) else (some false))) else (none)) else ((impl_Near.f k x403000 x403001 x403002 x4).bind fun t423 => (laws_FnWays.l1 k x0 x4 x5 x6 t423 0 x403000 x403001 x403002))
def laws_FnWays.l1 : Nat → List Int → Int → Int → Int → List Int → Int → Int → Int → List Int → Option (Bool)
  | 0, _, _, _, _, _, _, _, _, _ => none
  | k + 1, x0, x4, x5, x6, x9, x10, x403000, x403001, x403002 => if x10 < (x9.length : Int) then (if 0 ≤ x10 then ((impl_Days.f k x403000 x403001 x403002 (rd x9 x10) x5).bind fun t427 => (if x6 ≥ 0 then (if t427 < (wrap64 (x6 - 1)) then (if x4 = x5 then (if t427 < 0 then ((impl_IsOpen.f k x403000 x403001 x403002 x4).bind fun t428 => (if t428 = true then (some false) else (laws_FnWays.l1 k x0 x4 x5 x6 x9 (wrap64 (x10 + 1)) x403000 x403001 x403002))) else (laws_FnWays.l1 k x0 x4 x5 x6 x9 (wrap64 (x10 + 1)) x403000 x403001 x403002)) else (some false)) else (if t427 < 0 then ((impl_IsOpen.f k x403000 x403001 x403002 x4).bind fun t429 => (if t429 = true then (some false) else (laws_FnWays.l1 k x0 x4 x5 x6 x9 (wrap64 (x10 + 1)) x403000 x403001 x403002))) else (laws_FnWays.l1 k x0 x4 x5 x6 x9 (wrap64 (x10 + 1)) x403000 x403001 x403002))) else (laws_FnWays.l1 k x0 x4 x5 x6 x9 (wrap64 (x10 + 1)) x403000 x403001 x403002))) else (none)) else ((spec_DrawReach.f k x0).bind fun bt430 => ((impl_Reach.f k bt430.1 bt430.2.1 bt430.2.2.1 bt430.2.2.2.1 bt430.2.2.2.2).bind fun t438 => ((laws_ascends.f k t438).bind fun t441 => (if t441 = true then ((impl_Reach.f k bt430.1 bt430.2.1 bt430.2.2.1 bt430.2.2.2.1 (wrap64 (bt430.2.2.2.2 - 1))).bind fun t442 => ((laws_within.f k t442 t438).bind fun t445 => (if t445 = true then (laws_FnWays.j3 k x0 false) else (laws_FnWays.j3 k x0 (decide (bt430.2.2.2.2 > (-9))))))) else (laws_FnWays.j3 k x0 true)))))
def laws_FnWays.j3 : Nat → List Int → Bool → Option (Bool)
  | 0, _, _ => none
  | k + 1, x0, x188 => if x188 = true then (some false) else ((spec_DrawFarthest.f k x0).bind fun bt446 => ((impl_Farthest.f k bt446.1 bt446.2.1 bt446.2.2.1 bt446.2.2.2).bind fun t453 => ((impl_IsOpen.f k bt446.1 bt446.2.1 bt446.2.2.1 bt446.2.2.2).bind fun t454 => (if ((decide (t453 ≥ 0)) == t454) = true then (if t453 < 0 then (some true) else ((impl_Days.f k bt446.1 bt446.2.1 bt446.2.2.1 bt446.2.2.2 t453).bind fun t455 => ((impl_Reach.f k bt446.1 bt446.2.1 bt446.2.2.1 bt446.2.2.2 t455).bind fun t456 => ((impl_Reach.f k bt446.1 bt446.2.1 bt446.2.2.1 bt446.2.2.2 99).bind fun t459 => (some ((t456.length : Int) == (t459.length : Int))))))) else (some false)))))
end
def laws_FnWays.f (k : Nat) (l0 : List Int) : Option (Bool) := (laws_big.f l0).bind fun t394 => (if t394 = true then (some true) else ((spec_DrawWayTo.f k l0).bind fun bt395 => ((impl_Days.f k bt395.1 bt395.2.1 bt395.2.2.1 bt395.2.2.2.1 bt395.2.2.2.2).bind fun t403 => ((impl_WayTo.f k bt395.1 bt395.2.1 bt395.2.2.1 bt395.2.2.2.1 bt395.2.2.2.2).bind fun t404 => ((impl_Days.f k bt395.1 bt395.2.1 bt395.2.2.1 bt395.2.2.2.2 bt395.2.2.2.1).bind fun t407 => (if t403 = t407 then (if ((decide (t403 ≥ 0)) != (decide ((t404.length : Int) > 0))) = true then (laws_FnWays.j0 k l0 bt395.2.2.2.1 bt395.2.2.2.2 t403 t404 true bt395.1 bt395.2.1 bt395.2.2.1) else (if t403 ≥ 0 then (if (t404.length : Int) = (wrap64 (t403 + 1)) then ((impl_IsWay.f k bt395.1 bt395.2.1 bt395.2.2.1 t404).bind fun t408 => (if t408 = true then (if 0 < (t404.length : Int) then (if (rd t404 0) = bt395.2.2.2.1 then (if 0 ≤ t403 then (if t403 < (t404.length : Int) then (if (rd t404 t403) = bt395.2.2.2.2 then ((impl_Apart.f k bt395.1 bt395.2.1 bt395.2.2.1 bt395.2.2.2.1 bt395.2.2.2.2).bind fun t411 => (laws_FnWays.j0 k l0 bt395.2.2.2.1 bt395.2.2.2.2 t403 t404 (decide (t403 < t411)) bt395.1 bt395.2.1 bt395.2.2.1)) else (laws_FnWays.j0 k l0 bt395.2.2.2.1 bt395.2.2.2.2 t403 t404 true bt395.1 bt395.2.1 bt395.2.2.1)) else (none)) else (none)) else (laws_FnWays.j0 k l0 bt395.2.2.2.1 bt395.2.2.2.2 t403 t404 true bt395.1 bt395.2.1 bt395.2.2.1)) else (none)) else (laws_FnWays.j0 k l0 bt395.2.2.2.1 bt395.2.2.2.2 t403 t404 true bt395.1 bt395.2.1 bt395.2.2.1))) else (laws_FnWays.j0 k l0 bt395.2.2.2.1 bt395.2.2.2.2 t403 t404 true bt395.1 bt395.2.1 bt395.2.2.1)) else (laws_FnWays.j0 k l0 bt395.2.2.2.1 bt395.2.2.2.2 t403 t404 false bt395.1 bt395.2.1 bt395.2.2.1))) else (laws_FnWays.j0 k l0 bt395.2.2.2.1 bt395.2.2.2.2 t403 t404 true bt395.1 bt395.2.1 bt395.2.2.1)))))))
theorem laws_FnWays.mono_l : ∀ k, (∀ y0 y1 y2 y3 y4 y5 y6 y7 y8, LeO (laws_FnWays.j0 k y0 y1 y2 y3 y4 y5 y6 y7 y8) (laws_FnWays.j0 (k + 1) y0 y1 y2 y3 y4 y5 y6 y7 y8)) ∧ (∀ y0 y1 y2 y3 y4 y5 y6 y7 y8, LeO (laws_FnWays.l0 k y0 y1 y2 y3 y4 y5 y6 y7 y8) (laws_FnWays.l0 (k + 1) y0 y1 y2 y3 y4 y5 y6 y7 y8)) ∧ (∀ y0 y1 y2 y3 y4 y5 y6 y7 y8, LeO (laws_FnWays.l1 k y0 y1 y2 y3 y4 y5 y6 y7 y8) (laws_FnWays.l1 (k + 1) y0 y1 y2 y3 y4 y5 y6 y7 y8)) ∧ (∀ y0 y1, LeO (laws_FnWays.j3 k y0 y1) (laws_FnWays.j3 (k + 1) y0 y1))
  | 0 => ⟨fun _ _ _ _ _ _ _ _ _ r h => by simp [laws_FnWays.j0] at h, fun _ _ _ _ _ _ _ _ _ r h => by simp [laws_FnWays.l0] at h, fun _ _ _ _ _ _ _ _ _ r h => by simp [laws_FnWays.l1] at h, fun _ _ r h => by simp [laws_FnWays.j3] at h⟩
  | k + 1 => by
    obtain ⟨ih0, ih1, ih2, ih3⟩ := laws_FnWays.mono_l k
    refine ⟨?_, ?_, ?_, ?_⟩
    · intro y0 y1 y2 y3 y4 y5 y6 y7 y8
      unfold laws_FnWays.j0
      repeat' first
      | (with_reducible exact ih0 _ _ _ _ _ _ _ _ _)
      | (with_reducible exact ih1 _ _ _ _ _ _ _ _ _)
      | (with_reducible exact ih2 _ _ _ _ _ _ _ _ _)
      | (with_reducible exact ih3 _ _)
      | (with_reducible exact impl_Apart.mono _ _ _ _ _ _)
      | (with_reducible exact impl_Days.mono _ _ _ _ _ _)
      | (with_reducible exact impl_Farthest.mono _ _ _ _ _)
      | (with_reducible exact impl_IsOpen.mono _ _ _ _ _)
      | (with_reducible exact impl_IsWay.mono _ _ _ _ _)
      | (with_reducible exact impl_Near.mono _ _ _ _ _)
      | (with_reducible exact impl_Reach.mono _ _ _ _ _ _)
      | (with_reducible exact impl_WayTo.mono _ _ _ _ _ _)
      | (with_reducible exact laws_ascends.mono _ _)
      | (with_reducible exact laws_sameInts.mono _ _ _)
      | (with_reducible exact laws_within.mono _ _ _)
      | (with_reducible exact spec_DrawFarthest.mono _ _)
      | (with_reducible exact spec_DrawReach.mono _ _)
      | (with_reducible exact spec_DrawWayTo.mono _ _)
      | (with_reducible exact LeO.refl _)
      | (with_reducible exact LeO.none _)
      | (with_reducible refine LeO.ite ?_ ?_)
      | (with_reducible refine LeO.bind ?_ (fun _ => ?_))
      | exact ih0 _ _ _ _ _ _ _ _ _
      | exact ih1 _ _ _ _ _ _ _ _ _
      | exact ih2 _ _ _ _ _ _ _ _ _
      | exact ih3 _ _
      | exact impl_Apart.mono _ _ _ _ _ _
      | exact impl_Days.mono _ _ _ _ _ _
      | exact impl_Farthest.mono _ _ _ _ _
      | exact impl_IsOpen.mono _ _ _ _ _
      | exact impl_IsWay.mono _ _ _ _ _
      | exact impl_Near.mono _ _ _ _ _
      | exact impl_Reach.mono _ _ _ _ _ _
      | exact impl_WayTo.mono _ _ _ _ _ _
      | exact laws_ascends.mono _ _
      | exact laws_sameInts.mono _ _ _
      | exact laws_within.mono _ _ _
      | exact spec_DrawFarthest.mono _ _
      | exact spec_DrawReach.mono _ _
      | exact spec_DrawWayTo.mono _ _
      | exact LeO.none _
      | refine LeO.ite ?_ ?_
      | refine LeO.bind ?_ (fun _ => ?_)
    · intro y0 y1 y2 y3 y4 y5 y6 y7 y8
      unfold laws_FnWays.l0
      repeat' first
      | (with_reducible exact ih0 _ _ _ _ _ _ _ _ _)
      | (with_reducible exact ih1 _ _ _ _ _ _ _ _ _)
      | (with_reducible exact ih2 _ _ _ _ _ _ _ _ _)
      | (with_reducible exact ih3 _ _)
      | (with_reducible exact impl_Apart.mono _ _ _ _ _ _)
      | (with_reducible exact impl_Days.mono _ _ _ _ _ _)
      | (with_reducible exact impl_Farthest.mono _ _ _ _ _)
      | (with_reducible exact impl_IsOpen.mono _ _ _ _ _)
      | (with_reducible exact impl_IsWay.mono _ _ _ _ _)
      | (with_reducible exact impl_Near.mono _ _ _ _ _)
      | (with_reducible exact impl_Reach.mono _ _ _ _ _ _)
      | (with_reducible exact impl_WayTo.mono _ _ _ _ _ _)
      | (with_reducible exact laws_ascends.mono _ _)
      | (with_reducible exact laws_sameInts.mono _ _ _)
      | (with_reducible exact laws_within.mono _ _ _)
      | (with_reducible exact spec_DrawFarthest.mono _ _)
      | (with_reducible exact spec_DrawReach.mono _ _)
      | (with_reducible exact spec_DrawWayTo.mono _ _)
      | (with_reducible exact LeO.refl _)
      | (with_reducible exact LeO.none _)
      | (with_reducible refine LeO.ite ?_ ?_)
      | (with_reducible refine LeO.bind ?_ (fun _ => ?_))
      | exact ih0 _ _ _ _ _ _ _ _ _
      | exact ih1 _ _ _ _ _ _ _ _ _
      | exact ih2 _ _ _ _ _ _ _ _ _
      | exact ih3 _ _
      | exact impl_Apart.mono _ _ _ _ _ _
      | exact impl_Days.mono _ _ _ _ _ _
      | exact impl_Farthest.mono _ _ _ _ _
      | exact impl_IsOpen.mono _ _ _ _ _
      | exact impl_IsWay.mono _ _ _ _ _
      | exact impl_Near.mono _ _ _ _ _
      | exact impl_Reach.mono _ _ _ _ _ _
      | exact impl_WayTo.mono _ _ _ _ _ _
      | exact laws_ascends.mono _ _
      | exact laws_sameInts.mono _ _ _
      | exact laws_within.mono _ _ _
      | exact spec_DrawFarthest.mono _ _
      | exact spec_DrawReach.mono _ _
      | exact spec_DrawWayTo.mono _ _
      | exact LeO.none _
      | refine LeO.ite ?_ ?_
      | refine LeO.bind ?_ (fun _ => ?_)
    · intro y0 y1 y2 y3 y4 y5 y6 y7 y8
      unfold laws_FnWays.l1
      repeat' first
      | (with_reducible exact ih0 _ _ _ _ _ _ _ _ _)
      | (with_reducible exact ih1 _ _ _ _ _ _ _ _ _)
      | (with_reducible exact ih2 _ _ _ _ _ _ _ _ _)
      | (with_reducible exact ih3 _ _)
      | (with_reducible exact impl_Apart.mono _ _ _ _ _ _)
      | (with_reducible exact impl_Days.mono _ _ _ _ _ _)
      | (with_reducible exact impl_Farthest.mono _ _ _ _ _)
      | (with_reducible exact impl_IsOpen.mono _ _ _ _ _)
      | (with_reducible exact impl_IsWay.mono _ _ _ _ _)
      | (with_reducible exact impl_Near.mono _ _ _ _ _)
      | (with_reducible exact impl_Reach.mono _ _ _ _ _ _)
      | (with_reducible exact impl_WayTo.mono _ _ _ _ _ _)
      | (with_reducible exact laws_ascends.mono _ _)
      | (with_reducible exact laws_sameInts.mono _ _ _)
      | (with_reducible exact laws_within.mono _ _ _)
      | (with_reducible exact spec_DrawFarthest.mono _ _)
      | (with_reducible exact spec_DrawReach.mono _ _)
      | (with_reducible exact spec_DrawWayTo.mono _ _)
      | (with_reducible exact LeO.refl _)
      | (with_reducible exact LeO.none _)
      | (with_reducible refine LeO.ite ?_ ?_)
      | (with_reducible refine LeO.bind ?_ (fun _ => ?_))
      | exact ih0 _ _ _ _ _ _ _ _ _
      | exact ih1 _ _ _ _ _ _ _ _ _
      | exact ih2 _ _ _ _ _ _ _ _ _
      | exact ih3 _ _
      | exact impl_Apart.mono _ _ _ _ _ _
      | exact impl_Days.mono _ _ _ _ _ _
      | exact impl_Farthest.mono _ _ _ _ _
      | exact impl_IsOpen.mono _ _ _ _ _
      | exact impl_IsWay.mono _ _ _ _ _
      | exact impl_Near.mono _ _ _ _ _
      | exact impl_Reach.mono _ _ _ _ _ _
      | exact impl_WayTo.mono _ _ _ _ _ _
      | exact laws_ascends.mono _ _
      | exact laws_sameInts.mono _ _ _
      | exact laws_within.mono _ _ _
      | exact spec_DrawFarthest.mono _ _
      | exact spec_DrawReach.mono _ _
      | exact spec_DrawWayTo.mono _ _
      | exact LeO.none _
      | refine LeO.ite ?_ ?_
      | refine LeO.bind ?_ (fun _ => ?_)
    · intro y0 y1
      unfold laws_FnWays.j3
      repeat' first
      | (with_reducible exact ih0 _ _ _ _ _ _ _ _ _)
      | (with_reducible exact ih1 _ _ _ _ _ _ _ _ _)
      | (with_reducible exact ih2 _ _ _ _ _ _ _ _ _)
      | (with_reducible exact ih3 _ _)
      | (with_reducible exact impl_Apart.mono _ _ _ _ _ _)
      | (with_reducible exact impl_Days.mono _ _ _ _ _ _)
      | (with_reducible exact impl_Farthest.mono _ _ _ _ _)
      | (with_reducible exact impl_IsOpen.mono _ _ _ _ _)
      | (with_reducible exact impl_IsWay.mono _ _ _ _ _)
      | (with_reducible exact impl_Near.mono _ _ _ _ _)
      | (with_reducible exact impl_Reach.mono _ _ _ _ _ _)
      | (with_reducible exact impl_WayTo.mono _ _ _ _ _ _)
      | (with_reducible exact laws_ascends.mono _ _)
      | (with_reducible exact laws_sameInts.mono _ _ _)
      | (with_reducible exact laws_within.mono _ _ _)
      | (with_reducible exact spec_DrawFarthest.mono _ _)
      | (with_reducible exact spec_DrawReach.mono _ _)
      | (with_reducible exact spec_DrawWayTo.mono _ _)
      | (with_reducible exact LeO.refl _)
      | (with_reducible exact LeO.none _)
      | (with_reducible refine LeO.ite ?_ ?_)
      | (with_reducible refine LeO.bind ?_ (fun _ => ?_))
      | exact ih0 _ _ _ _ _ _ _ _ _
      | exact ih1 _ _ _ _ _ _ _ _ _
      | exact ih2 _ _ _ _ _ _ _ _ _
      | exact ih3 _ _
      | exact impl_Apart.mono _ _ _ _ _ _
      | exact impl_Days.mono _ _ _ _ _ _
      | exact impl_Farthest.mono _ _ _ _ _
      | exact impl_IsOpen.mono _ _ _ _ _
      | exact impl_IsWay.mono _ _ _ _ _
      | exact impl_Near.mono _ _ _ _ _
      | exact impl_Reach.mono _ _ _ _ _ _
      | exact impl_WayTo.mono _ _ _ _ _ _
      | exact laws_ascends.mono _ _
      | exact laws_sameInts.mono _ _ _
      | exact laws_within.mono _ _ _
      | exact spec_DrawFarthest.mono _ _
      | exact spec_DrawReach.mono _ _
      | exact spec_DrawWayTo.mono _ _
      | exact LeO.none _
      | refine LeO.ite ?_ ?_
      | refine LeO.bind ?_ (fun _ => ?_)
theorem laws_FnWays.mono : ∀ a0 k, LeO (laws_FnWays.f k a0) (laws_FnWays.f (k + 1) a0) := by
  intro a0 k
  obtain ⟨ih0, ih1, ih2, ih3⟩ := laws_FnWays.mono_l k
  unfold laws_FnWays.f
  repeat' first
      | (with_reducible exact ih0 _ _ _ _ _ _ _ _ _)
      | (with_reducible exact ih1 _ _ _ _ _ _ _ _ _)
      | (with_reducible exact ih2 _ _ _ _ _ _ _ _ _)
      | (with_reducible exact ih3 _ _)
      | (with_reducible exact impl_Apart.mono _ _ _ _ _ _)
      | (with_reducible exact impl_Days.mono _ _ _ _ _ _)
      | (with_reducible exact impl_Farthest.mono _ _ _ _ _)
      | (with_reducible exact impl_IsOpen.mono _ _ _ _ _)
      | (with_reducible exact impl_IsWay.mono _ _ _ _ _)
      | (with_reducible exact impl_Near.mono _ _ _ _ _)
      | (with_reducible exact impl_Reach.mono _ _ _ _ _ _)
      | (with_reducible exact impl_WayTo.mono _ _ _ _ _ _)
      | (with_reducible exact laws_ascends.mono _ _)
      | (with_reducible exact laws_sameInts.mono _ _ _)
      | (with_reducible exact laws_within.mono _ _ _)
      | (with_reducible exact spec_DrawFarthest.mono _ _)
      | (with_reducible exact spec_DrawReach.mono _ _)
      | (with_reducible exact spec_DrawWayTo.mono _ _)
      | (with_reducible exact LeO.refl _)
      | (with_reducible exact LeO.none _)
      | (with_reducible refine LeO.ite ?_ ?_)
      | (with_reducible refine LeO.bind ?_ (fun _ => ?_))
      | exact ih0 _ _ _ _ _ _ _ _ _
      | exact ih1 _ _ _ _ _ _ _ _ _
      | exact ih2 _ _ _ _ _ _ _ _ _
      | exact ih3 _ _
      | exact impl_Apart.mono _ _ _ _ _ _
      | exact impl_Days.mono _ _ _ _ _ _
      | exact impl_Farthest.mono _ _ _ _ _
      | exact impl_IsOpen.mono _ _ _ _ _
      | exact impl_IsWay.mono _ _ _ _ _
      | exact impl_Near.mono _ _ _ _ _
      | exact impl_Reach.mono _ _ _ _ _ _
      | exact impl_WayTo.mono _ _ _ _ _ _
      | exact laws_ascends.mono _ _
      | exact laws_sameInts.mono _ _ _
      | exact laws_within.mono _ _ _
      | exact spec_DrawFarthest.mono _ _
      | exact spec_DrawReach.mono _ _
      | exact spec_DrawWayTo.mono _ _
      | exact LeO.none _
      | refine LeO.ite ?_ ?_
      | refine LeO.bind ?_ (fun _ => ?_)
def laws_FnWays.T11 : Bool × List (List Nat × List Nat) := (true, [([], []), ([], []), ([], []), ([1, 2], [1, 2]), ([3], [3]), ([], []), ([0, 4, 5], [0, 4, 5]), ([], []), ([], []), ([7, 8], [7, 8]), ([6, 9], [6, 9]), ([10, 6], [10]), ([11], [11]), ([11], [11]), ([11], [11]), ([13, 14, 11], [11, 13, 14]), ([15, 11], [11, 15]), ([11], [11]), ([12, 16, 17, 11, 11], [11, 12, 16, 17]), ([11], [11]), ([11], [11]), ([19, 20, 11], [11, 19, 20]), ([18, 21, 18, 11], [11, 18, 21]), ([22, 11], [11, 22]), ([11, 23], [11, 23])])
def laws_FnWays.B11 : List Nat := [0, 0, 0, 6, 14, 0, 63, 0, 0, 384, 1023, 2047, 4095, 4095, 4095, 28671, 61439, 4095, 262143, 4095, 4095, 1576959, 4194303, 8388607, 16777215]
theorem laws_FnWays.tab11 : rtab .any (opsOf Try.f9 11) = laws_FnWays.T11 := by kernel_rfl
theorem laws_FnWays.bits11 : waitsOk laws_FnWays.T11.2 laws_FnWays.B11 = true := by kernel_rfl
def laws_FnWays.T17 : Bool × List (List Nat × List Nat) := (true, [([], []), ([], []), ([], []), ([1, 2], [1, 2]), ([3], [3]), ([], []), ([0, 4, 5], [0, 4, 5]), ([6, 6, 0, 1, 2, 3, 4, 5, 6], [6])])
def laws_FnWays.B17 : List Nat := [0, 0, 0, 6, 14, 0, 63, 127]
theorem laws_FnWays.tab17 : rtab .any (opsOf Try.f9 17) = laws_FnWays.T17 := by kernel_rfl
theorem laws_FnWays.bits17 : waitsOk laws_FnWays.T17.2 laws_FnWays.B17 = true := by kernel_rfl
def laws_FnWays.T26 : Bool × List (List Nat × List Nat) := (true, [([], []), ([0], [0]), ([], []), ([], []), ([2, 3], [2, 3]), ([1, 4], [1, 4]), ([5, 4], [5]), ([6], [6]), ([7, 6], [6, 7]), ([8, 6, 6], [6, 8]), ([9], [9]), ([9], [9]), ([9], [9]), ([9], [9]), ([9], [9]), ([12, 13, 14, 9, 9], [9, 12, 13, 14]), ([10, 11, 15, 15, 9], [9, 10, 11, 15]), ([16, 9], [9, 16]), ([9], [9]), ([9], [9]), ([18, 19, 16, 9], [9, 18, 19]), ([20, 9], [9, 20]), ([17, 21, 9], [9, 17, 21]), ([9, 22, 6], [6, 9, 22]), ([6, 23], [6, 23]), ([24, 20, 0, 1, 2, 3, 4, 5, 6, 7, 8, 9, 10, 11, 12, 13, 14, 15, 16, 17, 18, 19, 20, 21, 22, 23, 24], [24])])
def laws_FnWays.B26 : List Nat := [0, 1, 0, 0, 12, 31, 63, 127, 255, 511, 1023, 1023, 1023, 1023, 1023, 29695, 65535, 131071, 1023, 1023, 917503, 1966079, 4194303, 8388607, 16777215, 33554431]
theorem laws_FnWays.tab26 : rtab .any (opsOf Try.f9 26) = laws_FnWays.T26 := by kernel_rfl
theorem laws_FnWays.bits26 : waitsOk laws_FnWays.T26.2 laws_FnWays.B26 = true := by kernel_rfl
theorem nat_pos8 {n : Nat} {b : Bool} (h : decide ((n : Int) > 0) = b) : decide (0 < (n : Int)) = b ∧ decide (0 < n) = b := ⟨h, by rw [← h]; exact decide_eq_decide.2 (by omega)⟩
theorem bne_yes {a b : Bool} (h : (a != b) = true) : (a = true ∧ b = false) ∨ (a = false ∧ b = true) := by cases a <;> cases b <;> simp_all
theorem bne_no {a b : Bool} (h : (a != b) = false) : b = a := by cases a <;> cases b <;> simp_all
/-- Which operations have come up, by the bits of a number. -/
def bz (n k : Nat) : Array Bool := ((List.range n).map fun i => k.testBit i).toArray
theorem ls1 {α : Type} (l : List α) (i : Nat) (a : α) : l.toArray.setIfInBounds i a = (l.set i a).toArray := List.setIfInBounds_toArray l i a
theorem ls2 {α : Type} (x : α) (l : List α) (a : α) : (x :: l).set 0 a = a :: l := rfl
theorem ls3 {α : Type} (x : α) (l : List α) (i : Nat) (a : α) : (x :: l).set (i + 1) a = x :: l.set i a := rfl
theorem am_ : type_of% @Aside0.mk := @Aside0.mk
theorem b1_ : type_of% @below_alloc := @below_alloc
theorem b2_ : type_of% @pw_below_drewN := @pw_below_drewN
theorem b3_ : type_of% @below_drew1 := @below_drew1
theorem q1_ : type_of% @Kd.Q_alloc := @Kd.Q_alloc
theorem q2_ : type_of% @Kd.Q_drewN := @Kd.Q_drewN
theorem q3_ : type_of% @Kd.Q_drew := @Kd.Q_drew
theorem r1_ : type_of% @Kd.R_alloc := @Kd.R_alloc
theorem r2_ : type_of% @Kd.R_drewN := @Kd.R_drewN
theorem r3_ : type_of% @Kd.R_drew := @Kd.R_drew
theorem c1_ : type_of% @Kd.C_alloc := @Kd.C_alloc
theorem c2_ : type_of% @Kd.C_drewN := @Kd.C_drewN
theorem c3_ : type_of% @Kd.C_drew := @Kd.C_drew
theorem k1_ : type_of% @blk_drewN := @blk_drewN
theorem k2_ : type_of% @blk_drew := @blk_drew
theorem k3_ : type_of% @blk_alloc := @blk_alloc
theorem mt_ {α β : Type} (f : α → β) (l : List α) : l.toArray.map f = (l.map f).toArray := List.map_toArray ..
theorem mc_ {α β : Type} (f : α → β) (a : α) (l : List α) : (a :: l).map f = f a :: l.map f := rfl
theorem mn_ {α β : Type} (f : α → β) : ([] : List α).map f = [] := rfl
theorem ld_ {α : Type} (i : Nat) (l : List α) : (l.drop i).length = l.length - i := List.length_drop ..
theorem lt_ {α : Type} (i : Nat) (l : List α) : (l.take i).length = min i l.length := List.length_take ..
theorem pu_ {P : Program} {ops : Array Oper} {Q : Exit → Act → World → Prop} {md : Region.Mode} {S : World → Prop} {ds : List Nat} (i : Nat) (N : Option Tmp) {oi : Oper} (v : Value) {fuel : Nat} {l : Array Bool} {a : Act} {w : World} (l' : Array Bool) (hi : ops[i]? = some oi) (hN : oi.dst = N) (hc : anyB md ops l l' i = true)
    (hQ : ∀ c a w, Q (.panic c) (a.put oi.dst v) w → Q (.panic c) a w) (hy : Yields P ops oi v a) (a' : Act) (ha : a.put N v = a')
    (h : wpAnyLast P md ops Q S ds fuel l' a' w) : wpAnyLast P md ops Q S ds (fuel + 1) l a w := pure_ l' hi hN hc hQ hy ha h

end Go.Proofs.Ytncenfihphdipaa.QFnWays
