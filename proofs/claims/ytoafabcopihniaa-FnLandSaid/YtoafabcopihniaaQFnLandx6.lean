-- Laid by a program of this session, out of the translation; Lean checks it.
import Derived.Test.YtoafabcopihniaaQFnLandx0
import Derived.Test.YtoafabcopihniaaQFnLandx1
import Derived.Test.YtoafabcopihniaaQFnLandx2
import Derived.Test.YtoafabcopihniaaQFnLandx4
import Derived.Test.YtoafabcopihniaaQFnLandx5
namespace Go.Proofs.Ytoafabcopihniaa.QFnLand
open Go.RowKit Go.Proofs.YtoafabcopihniaaW.PrintWords Go.Proofs.YtoafabcopihniaaW.PrintLast Go.Proofs.YtoafabcopihniaaW.PrintMore
attribute [local go_sem] max2_int min2_int max_two min_two max_three min_three max_four min_four   -- for this text's walks alone
set_option linter.unusedVariables false
set_option linter.unusedSimpArgs false

/-! ### laws_FnLand: function 13 -/
mutual
def laws_FnLand.j0 : Nat → List Int → Bool → Option (Bool)
  | 0, _, _ => none
  | k + 1, x0, x46 => if x46 = true then (some false) else ((spec_DrawNear.f k x0).bind fun bt298 => ((impl_Near.f k bt298.1 bt298.2.1 bt298.2.2.1 bt298.2.2.2).bind fun t305 => ((laws_ascends.f k t305).bind fun t308 => (if t308 = true then (laws_FnLand.j1 k x0 bt298.2.2.2 t305 (decide ((t305.length : Int) > 4)) bt298.1 bt298.2.1 bt298.2.2.1) else (laws_FnLand.j1 k x0 bt298.2.2.2 t305 true bt298.1 bt298.2.1 bt298.2.2.1)))))
def laws_FnLand.j1 : Nat → List Int → Int → List Int → Bool → Int → Int → List Int → Option (Bool)
  | 0, _, _, _, _, _, _, _ => none
  | k + 1, x0, x7, x8, x62, x305000, x305001, x305002 => if x62 = true then (some false) else (laws_FnLand.l0 k x0 x7 x8 0 x305000 x305001 x305002)
def laws_FnLand.l0 : Nat → List Int → Int → List Int → Int → Int → Int → List Int → Option (Bool)
  | 0, _, _, _, _, _, _, _ => none
  | k + 1, x0, x7, x8, x9, x305000, x305001, x305002 => if x9 < (x8.length : Int) then (if 0 ≤ x9 then ((impl_IsOpen.f k x305000 x305001 x305002 (rd x8 x9)).bind fun t310 => (if t310 = true then ((impl_Apart.f k x305000 x305001 x305002 x7 (rd x8 x9)).bind fun t312 => (if t312 = 1 then ((impl_IsOpen.f k x305000 x305001 x305002 x7).bind fun t313 => (if t313 = true then ((impl_Near.f k x305000 x305001 x305002 (rd x8 x9)).bind fun t315 => ((laws_contains.f k t315 x7).bind fun t318 => (if t318 = true then (laws_FnLand.l0 k x0 x7 x8 (wrap64 (x9 + 1)) x305000 x305001 x305002) else (some false)))) else (laws_FnLand.l0 k x0 x7 x8 (wrap64 (x9 + 1)) x305000 x305001 x305002))) else (some false))) else (some false))) else (none)) else ((spec_DrawIsLand.f k x0).bind fun bt319 => ((impl_IsLand.f k bt319.1 bt319.2.1 bt319.2.2).bind fun t325 => (if t325 = true then ((impl_CountCells.f k bt319.1 bt319.2.1 bt319.2.2 0).bind fun t326 => ((impl_CountCells.f k bt319.1 bt319.2.1 bt319.2.2 1).bind fun t327 => ((impl_CountCells.f k bt319.1 bt319.2.1 bt319.2.2 2).bind fun t328 => (some ((wrap64 ((wrap64 (t326 + t327)) + t328)) == (bt319.2.2.length : Int)))))) else (some true))))
end
def laws_FnLand.f (k : Nat) (l0 : List Int) : Option (Bool) := (laws_big.f l0).bind fun t283 => (if t283 = true then (some true) else ((spec_DrawApart.f k l0).bind fun bt284 => ((impl_IsCell.f k bt284.1 bt284.2.1 bt284.2.2.1 bt284.2.2.2.1).bind fun t292 => ((spec_IsCell.f k bt284.1 bt284.2.1 bt284.2.2.1 bt284.2.2.2.1).bind fun t293 => (if (t292 != t293) = true then (some false) else ((impl_Apart.f k bt284.1 bt284.2.1 bt284.2.2.1 bt284.2.2.2.1 bt284.2.2.2.2).bind fun t294 => ((impl_Apart.f k bt284.1 bt284.2.1 bt284.2.2.1 bt284.2.2.2.2 bt284.2.2.2.1).bind fun t295 => (if t294 = t295 then ((impl_IsCell.f k bt284.1 bt284.2.1 bt284.2.2.1 bt284.2.2.2.1).bind fun t296 => (if t296 = true then ((impl_Apart.f k bt284.1 bt284.2.1 bt284.2.2.1 bt284.2.2.2.1 bt284.2.2.2.1).bind fun t297 => (laws_FnLand.j0 k l0 (t297 != 0))) else (laws_FnLand.j0 k l0 false))) else (laws_FnLand.j0 k l0 true)))))))))
theorem laws_FnLand.mono_l : ∀ k, (∀ y0 y1, LeO (laws_FnLand.j0 k y0 y1) (laws_FnLand.j0 (k + 1) y0 y1)) ∧ (∀ y0 y1 y2 y3 y4 y5 y6, LeO (laws_FnLand.j1 k y0 y1 y2 y3 y4 y5 y6) (laws_FnLand.j1 (k + 1) y0 y1 y2 y3 y4 y5 y6)) ∧ (∀ y0 y1 y2 y3 y4 y5 y6, LeO (laws_FnLand.l0 k y0 y1 y2 y3 y4 y5 y6) (laws_FnLand.l0 (k + 1) y0 y1 y2 y3 y4 y5 y6))
  | 0 => ⟨fun _ _ r h => by simp [laws_FnLand.j0] at h, fun _ _ _ _ _ _ _ r h => by simp [laws_FnLand.j1] at h, fun _ _ _ _ _ _ _ r h => by simp [laws_FnLand.l0] at h⟩
  | k + 1 => by
    obtain ⟨ih0, ih1, ih2⟩ := laws_FnLand.mono_l k
    refine ⟨?_, ?_, ?_⟩
    · intro y0 y1
      unfold laws_FnLand.j0
      repeat' first
      | (with_reducible exact ih0 _ _)
      | (with_reducible exact ih1 _ _ _ _ _ _ _)
      | (with_reducible exact ih2 _ _ _ _ _ _ _)
      | (with_reducible exact impl_Apart.mono _ _ _ _ _ _)
      | (with_reducible exact impl_CountCells.mono _ _ _ _ _)
      | (with_reducible exact impl_IsCell.mono _ _ _ _ _)
      | (with_reducible exact impl_IsLand.mono _ _ _ _)
      | (with_reducible exact impl_IsOpen.mono _ _ _ _ _)
      | (with_reducible exact impl_Near.mono _ _ _ _ _)
      | (with_reducible exact laws_ascends.mono _ _)
      | (with_reducible exact laws_contains.mono _ _ _)
      | (with_reducible exact spec_DrawApart.mono _ _)
      | (with_reducible exact spec_DrawIsLand.mono _ _)
      | (with_reducible exact spec_DrawNear.mono _ _)
      | (with_reducible exact spec_IsCell.mono _ _ _ _ _)
      | (with_reducible exact LeO.refl _)
      | (with_reducible exact LeO.none _)
      | (with_reducible refine LeO.ite ?_ ?_)
      | (with_reducible refine LeO.bind ?_ (fun _ => ?_))
      | exact ih0 _ _
      | exact ih1 _ _ _ _ _ _ _
      | exact ih2 _ _ _ _ _ _ _
      | exact impl_Apart.mono _ _ _ _ _ _
      | exact impl_CountCells.mono _ _ _ _ _
      | exact impl_IsCell.mono _ _ _ _ _
      | exact impl_IsLand.mono _ _ _ _
      | exact impl_IsOpen.mono _ _ _ _ _
      | exact impl_Near.mono _ _ _ _ _
      | exact laws_ascends.mono _ _
      | exact laws_contains.mono _ _ _
      | exact spec_DrawApart.mono _ _
      | exact spec_DrawIsLand.mono _ _
      | exact spec_DrawNear.mono _ _
      | exact spec_IsCell.mono _ _ _ _ _
      | exact LeO.none _
      | refine LeO.ite ?_ ?_
      | refine LeO.bind ?_ (fun _ => ?_)
    · intro y0 y1 y2 y3 y4 y5 y6
      unfold laws_FnLand.j1
      repeat' first
      | (with_reducible exact ih0 _ _)
      | (with_reducible exact ih1 _ _ _ _ _ _ _)
      | (with_reducible exact ih2 _ _ _ _ _ _ _)
      | (with_reducible exact impl_Apart.mono _ _ _ _ _ _)
      | (with_reducible exact impl_CountCells.mono _ _ _ _ _)
      | (with_reducible exact impl_IsCell.mono _ _ _ _ _)
      | (with_reducible exact impl_IsLand.mono _ _ _ _)
      | (with_reducible exact impl_IsOpen.mono _ _ _ _ _)
      | (with_reducible exact impl_Near.mono _ _ _ _ _)
      | (with_reducible exact laws_ascends.mono _ _)
      | (with_reducible exact laws_contains.mono _ _ _)
      | (with_reducible exact spec_DrawApart.mono _ _)
      | (with_reducible exact spec_DrawIsLand.mono _ _)
      | (with_reducible exact spec_DrawNear.mono _ _)
      | (with_reducible exact spec_IsCell.mono _ _ _ _ _)
      | (with_reducible exact LeO.refl _)
      | (with_reducible exact LeO.none _)
      | (with_reducible refine LeO.ite ?_ ?_)
      | (with_reducible refine LeO.bind ?_ (fun _ => ?_))
      | exact ih0 _ _
      | exact ih1 _ _ _ _ _ _ _
      | exact ih2 _ _ _ _ _ _ _
      | exact impl_Apart.mono _ _ _ _ _ _
      | exact impl_CountCells.mono _ _ _ _ _
      | exact impl_IsCell.mono _ _ _ _ _
      | exact impl_IsLand.mono _ _ _ _
      | exact impl_IsOpen.mono _ _ _ _ _
      | exact impl_Near.mono _ _ _ _ _
      | exact laws_ascends.mono _ _
      | exact laws_contains.mono _ _ _
      | exact spec_DrawApart.mono _ _
      | exact spec_DrawIsLand.mono _ _
      | exact spec_DrawNear.mono _ _
      | exact spec_IsCell.mono _ _ _ _ _
      | exact LeO.none _
      | refine LeO.ite ?_ ?_
      | refine LeO.bind ?_ (fun _ => ?_)
    · intro y0 y1 y2 y3 y4 y5 y6
      unfold laws_FnLand.l0
      repeat' first
      | (with_reducible exact ih0 _ _)
      | (with_reducible exact ih1 _ _ _ _ _ _ _)
      | (with_reducible exact ih2 _ _ _ _ _ _ _)
      | (with_reducible exact impl_Apart.mono _ _ _ _ _ _)
      | (with_reducible exact impl_CountCells.mono _ _ _ _ _)
      | (with_reducible exact impl_IsCell.mono _ _ _ _ _)
      | (with_reducible exact impl_IsLand.mono _ _ _ _)
      | (with_reducible exact impl_IsOpen.mono _ _ _ _ _)
      | (with_reducible exact impl_Near.mono _ _ _ _ _)
      | (with_reducible exact laws_ascends.mono _ _)
      | (with_reducible exact laws_contains.mono _ _ _)
      | (with_reducible exact spec_DrawApart.mono _ _)
      | (with_reducible exact spec_DrawIsLand.mono _ _)
      | (with_reducible exact spec_DrawNear.mono _ _)
      | (with_reducible exact spec_IsCell.mono _ _ _ _ _)
      | (with_reducible exact LeO.refl _)
      | (with_reducible exact LeO.none _)
      | (with_reducible refine LeO.ite ?_ ?_)
      | (with_reducible refine LeO.bind ?_ (fun _ => ?_))
      | exact ih0 _ _
      | exact ih1 _ _ _ _ _ _ _
      | exact ih2 _ _ _ _ _ _ _
      | exact impl_Apart.mono _ _ _ _ _ _
      | exact impl_CountCells.mono _ _ _ _ _
      | exact impl_IsCell.mono _ _ _ _ _
      | exact impl_IsLand.mono _ _ _ _
      | exact impl_IsOpen.mono _ _ _ _ _
      | exact impl_Near.mono _ _ _ _ _
      | exact laws_ascends.mono _ _
      | exact laws_contains.mono _ _ _
      | exact spec_DrawApart.mono _ _
      | exact spec_DrawIsLand.mono _ _
      | exact spec_DrawNear.mono _ _
      | exact spec_IsCell.mono _ _ _ _ _
      | exact LeO.none _
      | refine LeO.ite ?_ ?_
      | refine LeO.bind ?_ (fun _ => ?_)
theorem laws_FnLand.mono : ∀ a0 k, LeO (laws_FnLand.f k a0) (laws_FnLand.f (k + 1) a0) := by
  intro a0 k
  obtain ⟨ih0, ih1, ih2⟩ := laws_FnLand.mono_l k
  unfold laws_FnLand.f
  repeat' first
      | (with_reducible exact ih0 _ _)
      | (with_reducible exact ih1 _ _ _ _ _ _ _)
      | (with_reducible exact ih2 _ _ _ _ _ _ _)
      | (with_reducible exact impl_Apart.mono _ _ _ _ _ _)
      | (with_reducible exact impl_CountCells.mono _ _ _ _ _)
      | (with_reducible exact impl_IsCell.mono _ _ _ _ _)
      | (with_reducible exact impl_IsLand.mono _ _ _ _)
      | (with_reducible exact impl_IsOpen.mono _ _ _ _ _)
      | (with_reducible exact impl_Near.mono _ _ _ _ _)
      | (with_reducible exact laws_ascends.mono _ _)
      | (with_reducible exact laws_contains.mono _ _ _)
      | (with_reducible exact spec_DrawApart.mono _ _)
      | (with_reducible exact spec_DrawIsLand.mono _ _)
      | (with_reducible exact spec_DrawNear.mono _ _)
      | (with_reducible exact spec_IsCell.mono _ _ _ _ _)
      | (with_reducible exact LeO.refl _)
      | (with_reducible exact LeO.none _)
      | (with_reducible refine LeO.ite ?_ ?_)
      | (with_reducible refine LeO.bind ?_ (fun _ => ?_))
      | exact ih0 _ _
      | exact ih1 _ _ _ _ _ _ _
      | exact ih2 _ _ _ _ _ _ _
      | exact impl_Apart.mono _ _ _ _ _ _
      | exact impl_CountCells.mono _ _ _ _ _
      | exact impl_IsCell.mono _ _ _ _ _
      | exact impl_IsLand.mono _ _ _ _
      | exact impl_IsOpen.mono _ _ _ _ _
      | exact impl_Near.mono _ _ _ _ _
      | exact laws_ascends.mono _ _
      | exact laws_contains.mono _ _ _
      | exact spec_DrawApart.mono _ _
      | exact spec_DrawIsLand.mono _ _
      | exact spec_DrawNear.mono _ _
      | exact spec_IsCell.mono _ _ _ _ _
      | exact LeO.none _
      | refine LeO.ite ?_ ?_
      | refine LeO.bind ?_ (fun _ => ?_)
def laws_FnLand.T6 : Bool × List (List Nat × List Nat) := (true, [([], []), ([], []), ([], []), ([0, 1, 2], [0, 1, 2]), ([], []), ([], []), ([], []), ([4, 5, 6, 3], [4, 5, 6]), ([3, 7], [3, 7]), ([8, 7], [8]), ([9], [9]), ([9], [9]), ([10, 11, 9, 9], [9, 10, 11]), ([12, 12, 9], [9, 12]), ([13], [13]), ([13], [13]), ([13], [13]), ([14, 15, 16, 13, 13], [13, 14, 15, 16]), ([17, 13], [13, 17]), ([13, 18, 9], [9, 13, 18]), ([9, 19], [9, 19])])
def laws_FnLand.B6 : List Nat := [0, 0, 0, 7, 0, 0, 0, 127, 255, 511, 1023, 1023, 4095, 8191, 16383, 16383, 16383, 131071, 262143, 524287, 1048575]
theorem laws_FnLand.tab6 : rtab .any (opsOf Try.f13 6) = laws_FnLand.T6 := by kernel_rfl
theorem laws_FnLand.bits6 : waitsOk laws_FnLand.T6.2 laws_FnLand.B6 = true := by kernel_rfl
def laws_FnLand.T15 : Bool × List (List Nat × List Nat) := (true, [([], []), ([], []), ([], []), ([1, 2], [1, 2]), ([3], [3]), ([0, 4], [0, 4]), ([5], [5]), ([6, 5], [6]), ([7], [7]), ([7], [7]), ([7], [7]), ([7], [7]), ([10, 11, 7], [7, 10, 11]), ([12, 7], [7, 12]), ([8, 9, 13, 7, 7], [7, 8, 9, 13]), ([14, 7], [7, 14]), ([7, 15], [7, 15]), ([16, 14], [16]), ([17], [17]), ([17], [17]), ([18, 19, 17, 17], [17, 18, 19]), ([20, 20, 17], [17, 20]), ([21], [21]), ([21], [21]), ([21], [21]), ([23, 24, 21], [21, 23, 24]), ([25, 21], [21, 25]), ([22, 26, 21, 21], [21, 22, 26]), ([21], [21]), ([27, 28, 27, 21], [21, 27, 28]), ([29, 21], [21, 29]), ([21, 30, 17], [17, 21, 30]), ([17, 31], [17, 31])])
def laws_FnLand.B15 : List Nat := [0, 0, 0, 6, 14, 31, 63, 127, 255, 255, 255, 255, 3327, 7423, 16383, 32767, 65535, 131071, 262143, 262143, 1048575, 2097151, 4194303, 4194303, 4194303, 29360127, 62914559, 134217727, 4194303, 536870911, 1073741823, 2147483647, 4294967295]
theorem laws_FnLand.tab15 : rtab .any (opsOf Try.f13 15) = laws_FnLand.T15 := by kernel_rfl
theorem laws_FnLand.bits15 : waitsOk laws_FnLand.T15.2 laws_FnLand.B15 = true := by kernel_rfl
def laws_FnLand.T18 : Bool × List (List Nat × List Nat) := (true, [([], []), ([0], [0]), ([1], [1]), ([2, 1], [2]), ([3], [3]), ([4, 3, 3], [3, 4]), ([3], [3]), ([6, 5, 3], [3, 6]), ([5, 7, 3], [3, 5, 7]), ([3], [3]), ([9, 7, 3], [3, 9]), ([8, 10, 3], [3, 8, 10]), ([3], [3]), ([12, 3], [3, 12]), ([13, 3], [3, 13]), ([11, 14, 3], [3, 11, 14]), ([3, 15], [3, 15]), ([16, 10, 0, 1, 2, 3, 4, 5, 6, 7, 8, 9, 10, 11, 12, 13, 14, 15, 16], [16])])
def laws_FnLand.B18 : List Nat := [0, 1, 3, 7, 15, 31, 15, 127, 255, 15, 767, 2047, 15, 4111, 12303, 32767, 65535, 131071]
theorem laws_FnLand.tab18 : rtab .any (opsOf Try.f13 18) = laws_FnLand.T18 := by kernel_rfl
theorem laws_FnLand.bits18 : waitsOk laws_FnLand.T18.2 laws_FnLand.B18 = true := by kernel_rfl
end Go.Proofs.Ytoafabcopihniaa.QFnLand
