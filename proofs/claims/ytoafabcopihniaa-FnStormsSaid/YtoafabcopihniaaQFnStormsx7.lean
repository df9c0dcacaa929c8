-- Laid by a program of this session, out of the translation; Lean checks it.
import Derived.Test.YtoafabcopihniaaQFnStormsx0
import Derived.Test.YtoafabcopihniaaQFnStormsx1
import Derived.Test.YtoafabcopihniaaQFnStormsx2
import Derived.Test.YtoafabcopihniaaQFnStormsx5
import Derived.Test.YtoafabcopihniaaQFnStormsx6
namespace Go.Proofs.Ytoafabcopihniaa.QFnStorms
open Go.RowKit Go.Proofs.YtoafabcopihniaaW.PrintWords Go.Proofs.YtoafabcopihniaaW.PrintLast Go.Proofs.YtoafabcopihniaaW.PrintMore
attribute [local go_sem] max2_int min2_int max_two min_two max_three min_three max_four min_four   -- for this text's walks alone
set_option linter.unusedVariables false
set_option linter.unusedSimpArgs false

/-! ### laws_FnStorms: function 9 -/
mutual
def laws_FnStorms.j0 : Nat → List Int → List Bool → Int → Int → Bool → Int → Int → Option (Bool)
  | 0, _, _, _, _, _, _, _ => none
  | k + 1, x0, x4, x5, x6, x51, x304000, x304001 => if x51 = true then (some false) else (if x6 > 0 then ((laws_longer.f x4 false).bind fun t306 => ((impl_WorstDays.f k x304000 x304001 t306 (wrap64 (x5 - 1))).bind fun t309 => (if t309 > (wrap64 (x6 - 1)) then (some false) else ((impl_MayStorm.f k x304000 x304001 x4).bind fun t310 => (if t310 = true then ((laws_longer.f x4 true).bind fun t311 => ((impl_WorstDays.f k x304000 x304001 t311 x5).bind fun t314 => (if t314 = (wrap64 (x6 - 1)) then ((impl_AddDay.f x4 false).bind fun t315 => ((impl_WorstDays.f k x304000 x304001 t315 (wrap64 (x5 - 1))).bind fun t318 => (if t318 = t309 then (laws_FnStorms.j1 k x0) else (some false)))) else (some false)))) else ((impl_AddDay.f x4 false).bind fun t319 => ((impl_WorstDays.f k x304000 x304001 t319 (wrap64 (x5 - 1))).bind fun t322 => (if t322 = t309 then (laws_FnStorms.j1 k x0) else (some false))))))))) else (laws_FnStorms.j1 k x0))
def laws_FnStorms.j1 : Nat → List Int → Option (Bool)
  | 0, _ => none
  | k + 1, x0 => (spec_DrawMayStorm.f k x0).bind fun bt323 => ((impl_Keeps.f k bt323.1 bt323.2.1 bt323.2.2).bind fun t329 => (if t329 = true then ((laws_longer.f bt323.2.2 true).bind fun t330 => ((impl_Keeps.f k bt323.1 bt323.2.1 t330).bind fun t333 => ((impl_MayStorm.f k bt323.1 bt323.2.1 bt323.2.2).bind fun t334 => (if (t333 != t334) = true then (laws_FnStorms.j2 k x0 true) else ((laws_longer.f bt323.2.2 false).bind fun t335 => ((impl_Keeps.f k bt323.1 bt323.2.1 t335).bind fun t338 => (laws_FnStorms.j2 k x0 (!t338)))))))) else (laws_FnStorms.j2 k x0 false)))
def laws_FnStorms.j2 : Nat → List Int → Bool → Option (Bool)
  | 0, _, _ => none
  | k + 1, x0, x113 => if x113 = true then (some false) else ((spec_DrawAddDay.f k x0).bind fun bt339 => ((impl_AddDay.f bt339.1 bt339.2).bind fun t343 => (if (t343.length : Int) > 0 then (if (t343.length : Int) ≤ 10 then (if 0 ≤ (wrap64 ((t343.length : Int) - 1)) then (if (wrap64 ((t343.length : Int) - 1)) < (t343.length : Int) then (if ((rdOf false t343 (wrap64 ((t343.length : Int) - 1))) == bt339.2) = true then ((impl_CalmDays.f k t343).bind fun t347 => (if (bt339.2 == (t347 == 0)) = true then ((impl_CountStorms.f k t343).bind fun t348 => (some (decide (t348 ≤ (t343.length : Int))))) else (some false))) else (some false)) else (none)) else (none)) else (some false)) else (some false))))
end
def laws_FnStorms.f (k : Nat) (l0 : List Int) : Option (Bool) := (laws_big.f l0).bind fun t296 => (if t296 = true then (some true) else ((spec_DrawWorstDays.f k l0).bind fun bt297 => ((impl_WorstDays.f k bt297.1 bt297.2.1 bt297.2.2.1 bt297.2.2.2).bind fun t304 => ((impl_IsRule.f bt297.1 bt297.2.1).bind fun t305 => (if t305 = true then (if bt297.2.2.2 ≥ 0 then (if bt297.2.2.2 ≤ 200 then (if ((decide (t304 ≥ 0)) != (decide ((bt297.2.2.1.length : Int) ≤ 400))) = true then (laws_FnStorms.j0 k l0 bt297.2.2.1 bt297.2.2.2 t304 true bt297.1 bt297.2.1) else (if t304 ≥ 0 then (laws_FnStorms.j0 k l0 bt297.2.2.1 bt297.2.2.2 t304 (decide (t304 < bt297.2.2.2)) bt297.1 bt297.2.1) else (laws_FnStorms.j0 k l0 bt297.2.2.1 bt297.2.2.2 t304 false bt297.1 bt297.2.1))) else (if ((decide (t304 ≥ 0)) != false) = true then (laws_FnStorms.j0 k l0 bt297.2.2.1 bt297.2.2.2 t304 true bt297.1 bt297.2.1) else (if t304 ≥ 0 then (laws_FnStorms.j0 k l0 bt297.2.2.1 bt297.2.2.2 t304 (decide (t304 < bt297.2.2.2)) bt297.1 bt297.2.1) else (laws_FnStorms.j0 k l0 bt297.2.2.1 bt297.2.2.2 t304 false bt297.1 bt297.2.1)))) else (if ((decide (t304 ≥ 0)) != false) = true then (laws_FnStorms.j0 k l0 bt297.2.2.1 bt297.2.2.2 t304 true bt297.1 bt297.2.1) else (if t304 ≥ 0 then (laws_FnStorms.j0 k l0 bt297.2.2.1 bt297.2.2.2 t304 (decide (t304 < bt297.2.2.2)) bt297.1 bt297.2.1) else (laws_FnStorms.j0 k l0 bt297.2.2.1 bt297.2.2.2 t304 false bt297.1 bt297.2.1)))) else (if ((decide (t304 ≥ 0)) != false) = true then (laws_FnStorms.j0 k l0 bt297.2.2.1 bt297.2.2.2 t304 true bt297.1 bt297.2.1) else (if t304 ≥ 0 then (laws_FnStorms.j0 k l0 bt297.2.2.1 bt297.2.2.2 t304 (decide (t304 < bt297.2.2.2)) bt297.1 bt297.2.1) else (laws_FnStorms.j0 k l0 bt297.2.2.1 bt297.2.2.2 t304 false bt297.1 bt297.2.1))))))))
theorem laws_FnStorms.mono_l : ∀ k, (∀ y0 y1 y2 y3 y4 y5 y6, LeO (laws_FnStorms.j0 k y0 y1 y2 y3 y4 y5 y6) (laws_FnStorms.j0 (k + 1) y0 y1 y2 y3 y4 y5 y6)) ∧ (∀ y0, LeO (laws_FnStorms.j1 k y0) (laws_FnStorms.j1 (k + 1) y0)) ∧ (∀ y0 y1, LeO (laws_FnStorms.j2 k y0 y1) (laws_FnStorms.j2 (k + 1) y0 y1))
  | 0 => ⟨fun _ _ _ _ _ _ _ r h => by simp [laws_FnStorms.j0] at h, fun _ r h => by simp [laws_FnStorms.j1] at h, fun _ _ r h => by simp [laws_FnStorms.j2] at h⟩
  | k + 1 => by
    obtain ⟨ih0, ih1, ih2⟩ := laws_FnStorms.mono_l k
    refine ⟨?_, ?_, ?_⟩
    · intro y0 y1 y2 y3 y4 y5 y6
      unfold laws_FnStorms.j0
      repeat' first
      | (with_reducible exact ih0 _ _ _ _ _ _ _)
      | (with_reducible exact ih1 _)
      | (with_reducible exact ih2 _ _)
      | (with_reducible exact impl_CalmDays.mono _ _)
      | (with_reducible exact impl_CountStorms.mono _ _)
      | (with_reducible exact impl_Keeps.mono _ _ _ _)
      | (with_reducible exact impl_MayStorm.mono _ _ _ _)
      | (with_reducible exact impl_WorstDays.mono _ _ _ _ _)
      | (with_reducible exact spec_DrawAddDay.mono _ _)
      | (with_reducible exact spec_DrawMayStorm.mono _ _)
      | (with_reducible exact spec_DrawWorstDays.mono _ _)
      | (with_reducible exact LeO.refl _)
      | (with_reducible exact LeO.none _)
      | (with_reducible refine LeO.ite ?_ ?_)
      | (with_reducible refine LeO.bind ?_ (fun _ => ?_))
      | exact ih0 _ _ _ _ _ _ _
      | exact ih1 _
      | exact ih2 _ _
      | exact impl_CalmDays.mono _ _
      | exact impl_CountStorms.mono _ _
      | exact impl_Keeps.mono _ _ _ _
      | exact impl_MayStorm.mono _ _ _ _
      | exact impl_WorstDays.mono _ _ _ _ _
      | exact spec_DrawAddDay.mono _ _
      | exact spec_DrawMayStorm.mono _ _
      | exact spec_DrawWorstDays.mono _ _
      | exact LeO.none _
      | refine LeO.ite ?_ ?_
      | refine LeO.bind ?_ (fun _ => ?_)
    · intro y0
      unfold laws_FnStorms.j1
      repeat' first
      | (with_reducible exact ih0 _ _ _ _ _ _ _)
      | (with_reducible exact ih1 _)
      | (with_reducible exact ih2 _ _)
      | (with_reducible exact impl_CalmDays.mono _ _)
      | (with_reducible exact impl_CountStorms.mono _ _)
      | (with_reducible exact impl_Keeps.mono _ _ _ _)
      | (with_reducible exact impl_MayStorm.mono _ _ _ _)
      | (with_reducible exact impl_WorstDays.mono _ _ _ _ _)
      | (with_reducible exact spec_DrawAddDay.mono _ _)
      | (with_reducible exact spec_DrawMayStorm.mono _ _)
      | (with_reducible exact spec_DrawWorstDays.mono _ _)
      | (with_reducible exact LeO.refl _)
      | (with_reducible exact LeO.none _)
      | (with_reducible refine LeO.ite ?_ ?_)
      | (with_reducible refine LeO.bind ?_ (fun _ => ?_))
      | exact ih0 _ _ _ _ _ _ _
      | exact ih1 _
      | exact ih2 _ _
      | exact impl_CalmDays.mono _ _
      | exact impl_CountStorms.mono _ _
      | exact impl_Keeps.mono _ _ _ _
      | exact impl_MayStorm.mono _ _ _ _
      | exact impl_WorstDays.mono _ _ _ _ _
      | exact spec_DrawAddDay.mono _ _
      | exact spec_DrawMayStorm.mono _ _
      | exact spec_DrawWorstDays.mono _ _
      | exact LeO.none _
      | refine LeO.ite ?_ ?_
      | refine LeO.bind ?_ (fun _ => ?_)
    · intro y0 y1
      unfold laws_FnStorms.j2
      repeat' first
      | (with_reducible exact ih0 _ _ _ _ _ _ _)
      | (with_reducible exact ih1 _)
      | (with_reducible exact ih2 _ _)
      | (with_reducible exact impl_CalmDays.mono _ _)
      | (with_reducible exact impl_CountStorms.mono _ _)
      | (with_reducible exact impl_Keeps.mono _ _ _ _)
      | (with_reducible exact impl_MayStorm.mono _ _ _ _)
      | (with_reducible exact impl_WorstDays.mono _ _ _ _ _)
      | (with_reducible exact spec_DrawAddDay.mono _ _)
      | (with_reducible exact spec_DrawMayStorm.mono _ _)
      | (with_reducible exact spec_DrawWorstDays.mono _ _)
      | (with_reducible exact LeO.refl _)
      | (with_reducible exact LeO.none _)
      | (with_reducible refine LeO.ite ?_ ?_)
      | (with_reducible refine LeO.bind ?_ (fun _ => ?_))
      | exact ih0 _ _ _ _ _ _ _
      | exact ih1 _
      | exact ih2 _ _
      | exact impl_CalmDays.mono _ _
      | exact impl_CountStorms.mono _ _
      | exact impl_Keeps.mono _ _ _ _
      | exact impl_MayStorm.mono _ _ _ _
      | exact impl_WorstDays.mono _ _ _ _ _
      | exact spec_DrawAddDay.mono _ _
      | exact spec_DrawMayStorm.mono _ _
      | exact spec_DrawWorstDays.mono _ _
      | exact LeO.none _
      | refine LeO.ite ?_ ?_
      | refine LeO.bind ?_ (fun _ => ?_)
theorem laws_FnStorms.mono : ∀ a0 k, LeO (laws_FnStorms.f k a0) (laws_FnStorms.f (k + 1) a0) := by
  intro a0 k
  obtain ⟨ih0, ih1, ih2⟩ := laws_FnStorms.mono_l k
  unfold laws_FnStorms.f
  repeat' first
      | (with_reducible exact ih0 _ _ _ _ _ _ _)
      | (with_reducible exact ih1 _)
      | (with_reducible exact ih2 _ _)
      | (with_reducible exact impl_CalmDays.mono _ _)
      | (with_reducible exact impl_CountStorms.mono _ _)
      | (with_reducible exact impl_Keeps.mono _ _ _ _)
      | (with_reducible exact impl_MayStorm.mono _ _ _ _)
      | (with_reducible exact impl_WorstDays.mono _ _ _ _ _)
      | (with_reducible exact spec_DrawAddDay.mono _ _)
      | (with_reducible exact spec_DrawMayStorm.mono _ _)
      | (with_reducible exact spec_DrawWorstDays.mono _ _)
      | (with_reducible exact LeO.refl _)
      | (with_reducible exact LeO.none _)
      | (with_reducible refine LeO.ite ?_ ?_)
      | (with_reducible refine LeO.bind ?_ (fun _ => ?_))
      | exact ih0 _ _ _ _ _ _ _
      | exact ih1 _
      | exact ih2 _ _
      | exact impl_CalmDays.mono _ _
      | exact impl_CountStorms.mono _ _
      | exact impl_Keeps.mono _ _ _ _
      | exact impl_MayStorm.mono _ _ _ _
      | exact impl_WorstDays.mono _ _ _ _ _
      | exact spec_DrawAddDay.mono _ _
      | exact spec_DrawMayStorm.mono _ _
      | exact spec_DrawWorstDays.mono _ _
      | exact LeO.none _
      | refine LeO.ite ?_ ?_
      | refine LeO.bind ?_ (fun _ => ?_)
def laws_FnStorms.T9 : Bool × List (List Nat × List Nat) := (true, [([], []), ([], []), ([1], [1]), ([0, 2], [0, 2]), ([3], [3]), ([4], [4]), ([4], [4]), ([5, 6, 4, 4], [4, 5, 6]), ([7, 7, 4], [4, 7]), ([8], [8]), ([8], [8]), ([10, 8, 8], [8, 10]), ([8], [8]), ([9, 11, 12, 11, 8], [8, 9, 11, 12]), ([8], [8]), ([14, 8], [8, 14]), ([13, 15, 8], [8, 13, 15]), ([8, 16, 4], [4, 8, 16]), ([4, 17], [4, 17]), ([18, 13], [18]), ([19], [19]), ([19], [19]), ([21, 19, 19], [19, 21]), ([19], [19]), ([23, 19], [19, 23]), ([20, 22, 24, 22, 19], [19, 20, 22, 24]), ([19], [19]), ([25, 26, 19], [19, 25, 26]), ([19, 27], [19, 27])])
def laws_FnStorms.B9 : List Nat := [0, 0, 2, 7, 15, 31, 31, 127, 255, 511, 511, 1535, 511, 8191, 511, 16895, 65535, 131071, 262143, 524287, 1048575, 1048575, 3145727, 1048575, 9437183, 33554431, 1048575, 134217727, 268435455]
theorem laws_FnStorms.tab9 : rtab .any (opsOf Try.f9 9) = laws_FnStorms.T9 := by kernel_rfl
theorem laws_FnStorms.bits9 : waitsOk laws_FnStorms.T9.2 laws_FnStorms.B9 = true := by kernel_rfl
def laws_FnStorms.T12 : Bool × List (List Nat × List Nat) := (true, [([], []), ([], []), ([0, 1], [0, 1]), ([2, 2], [2]), ([3], [3]), ([3], [3]), ([5, 3, 3], [3, 5]), ([4, 6, 6, 3], [3, 4, 6]), ([3], [3]), ([3], [3]), ([8, 9, 7, 3], [3, 8, 9]), ([7, 10, 3], [3, 7, 10]), ([11, 10, 3], [3, 11]), ([12], [12]), ([12], [12]), ([14, 12, 12], [12, 14]), ([13, 15, 15, 12], [12, 13, 15]), ([16, 12], [12, 16]), ([12, 17, 3], [3, 12, 17]), ([3, 18], [3, 18])])
def laws_FnStorms.B12 : List Nat := [0, 0, 3, 7, 15, 15, 47, 127, 15, 15, 1023, 2047, 4095, 8191, 8191, 24575, 65535, 131071, 262143, 524287]
theorem laws_FnStorms.tab12 : rtab .any (opsOf Try.f9 12) = laws_FnStorms.T12 := by kernel_rfl
theorem laws_FnStorms.bits12 : waitsOk laws_FnStorms.T12.2 laws_FnStorms.B12 = true := by kernel_rfl
theorem bne_no {a b : Bool} (h : (a != b) = false) : b = a := by cases a <;> cases b <;> simp_all
/-- Which operations have come up, by the bits of a number. -/
def bz (n k : Nat) : Array Bool := ((List.range n).map fun i => k.testBit i).toArray
theorem ls1 {α : Type} (l : List α) (i : Nat) (a : α) : l.toArray.setIfInBounds i a = (l.set i a).toArray := List.setIfInBounds_toArray l i a
theorem ls2 {α : Type} (x : α) (l : List α) (a : α) : (x :: l).set 0 a = a :: l := rfl
theorem ls3 {α : Type} (x : α) (l : List α) (i : Nat) (a : α) : (x :: l).set (i + 1) a = x :: l.set i a := rfl
theorem am_ : type_of% @Aside0.mk := @Aside0.mk
theorem b1_ : type_of% @below_alloc := @below_alloc
theorem b2_ : type_of% @pw_below_drewN := @pw_below_drewN
theorem b3_ : type_of% @below_drew1 := @below_drew1
theorem r1_ : type_of% @Kd.R_alloc := @Kd.R_alloc
theorem r2_ : type_of% @Kd.R_drewN := @Kd.R_drewN
theorem r3_ : type_of% @Kd.R_drew := @Kd.R_drew
theorem c1_ : type_of% @Kd.C_alloc := @Kd.C_alloc
theorem c2_ : type_of% @Kd.C_drewN := @Kd.C_drewN
theorem c3_ : type_of% @Kd.C_drew := @Kd.C_drew
theorem k1_ : type_of% @blk_drewN := @blk_drewN
theorem k2_ : type_of% @blk_drew := @blk_drew
theorem k3_ : type_of% @blk_alloc := @blk_alloc
theorem mt_ {α β : Type} (f : α → β) (l : List α) : l.toArray.map f = (l.map f).toArray := List.map_toArray ..
theorem mc_ {α β : Type} (f : α → β) (a : α) (l : List α) : (a :: l).map f = f a :: l.map f := rfl
theorem mn_ {α β : Type} (f : α → β) : ([] : List α).map f = [] := rfl
theorem ld_ {α : Type} (i : Nat) (l : List α) : (l.drop i).length = l.length - i := List.length_drop ..
theorem lt_ {α : Type} (i : Nat) (l : List α) : (l.take i).length = min i l.length := List.length_take ..
theorem pu_ {P : Program} {ops : Array Oper} {Q : Exit → Act → World → Prop} {md : Region.Mode} {S : World → Prop} {ds : List Nat} (i : Nat) (N : Option Tmp) {oi : Oper} (v : Value) {fuel : Nat} {l : Array Bool} {a : Act} {w : World} (l' : Array Bool) (hi : ops[i]? = some oi) (hN : oi.dst = N) (hc : anyB md ops l l' i = true)
    (hQ : ∀ c a w, Q (.panic c) (a.put oi.dst v) w → Q (.panic c) a w) (hy : Yields P ops oi v a) (a' : Act) (ha : a.put N v = a')
    (h : wpAnyLast P md ops Q S ds fuel l' a' w) : wpAnyLast P md ops Q S ds (fuel + 1) l a w := pure_ l' hi hN hc hQ hy ha h

end Go.Proofs.Ytoafabcopihniaa.QFnStorms
