-- Laid by a program of this session, out of the translation; Lean checks it.
import Derived.Test.YtoafabcopihniaaQFnLandx6
namespace Go.Proofs.Ytoafabcopihniaa.QFnLand
open Go.RowKit Go.Proofs.YtoafabcopihniaaW.PrintWords Go.Proofs.YtoafabcopihniaaW.PrintLast Go.Proofs.YtoafabcopihniaaW.PrintMore
attribute [local go_sem] max2_int min2_int max_two min_two max_three min_three max_four min_four   -- for this text's walks alone
set_option linter.unusedVariables false
set_option linter.unusedSimpArgs false

/-- Which operations have come up, by the bits of a number. -/
def bz (n k : Nat) : Array Bool := ((List.range n).map fun i => k.testBit i).toArray
theorem ls1 {α : Type} (l : List α) (i : Nat) (a : α) : l.toArray.setIfInBounds i a = (l.set i a).toArray := List.setIfInBounds_toArray l i a
theorem ls2 {α : Type} (x : α) (l : List α) (a : α) : (x :: l).set 0 a = a :: l := rfl
theorem ls3 {α : Type} (x : α) (l : List α) (i : Nat) (a : α) : (x :: l).set (i + 1) a = x :: l.set i a := rfl
set_option maxHeartbeats 8000000 in
set_option maxRecDepth 100000 in
theorem laws_FnLand.calls (k : Nat) (A0 : Option Addr) (c0 : Nat) (l0 : List Int) (r : Bool) (w : World) (hr0 : Kd.C (Kd.int .u8) w A0 l0.length l0) (hc0 : l0.length ≤ c0) (h : laws_FnLand.f k l0 = some r) :
  Calls Try.prog 13 #[.slice A0 l0.length c0] w fun e w' => e = .returned (.bool r) ∧ Below w.heap.size w w' := by
 have hu36 := Try.underlying36
 have HR0 := Aside0.mk hr0
 have HC0 := Aside0.mk hc0
 clear hr0 hc0
 have HB := Aside0.mk (Below.refl w.heap.size w)
 have H : ((laws_big.f l0).bind fun t283 => (if t283 = true then (some true) else ((spec_DrawApart.f k l0).bind fun bt284 => ((impl_IsCell.f k bt284.1 bt284.2.1 bt284.2.2.1 bt284.2.2.2.1).bind fun t292 => ((spec_IsCell.f k bt284.1 bt284.2.1 bt284.2.2.1 bt284.2.2.2.1).bind fun t293 => (if (t292 != t293) = true then (some false) else ((impl_Apart.f k bt284.1 bt284.2.1 bt284.2.2.1 bt284.2.2.2.1 bt284.2.2.2.2).bind fun t294 => ((impl_Apart.f k bt284.1 bt284.2.1 bt284.2.2.1 bt284.2.2.2.2 bt284.2.2.2.1).bind fun t295 => (if t294 = t295 then ((impl_IsCell.f k bt284.1 bt284.2.1 bt284.2.2.1 bt284.2.2.2.1).bind fun t296 => (if t296 = true then ((impl_Apart.f k bt284.1 bt284.2.1 bt284.2.2.1 bt284.2.2.2.1 bt284.2.2.2.1).bind fun t297 => (laws_FnLand.j0 k l0 (t297 != 0))) else (laws_FnLand.j0 k l0 false))) else (laws_FnLand.j0 k l0 true)))))))))) = some r := h
 clear h
 replace H := Option.bind_eq_some_iff.mp H
 obtain ⟨t283, A20, H⟩ := H
 replace H : (if t283 = true then (some true) else ((spec_DrawApart.f k l0).bind fun bt284 => ((impl_IsCell.f k bt284.1 bt284.2.1 bt284.2.2.1 bt284.2.2.2.1).bind fun t292 => ((spec_IsCell.f k bt284.1 bt284.2.1 bt284.2.2.1 bt284.2.2.2.1).bind fun t293 => (if (t292 != t293) = true then (some false) else ((impl_Apart.f k bt284.1 bt284.2.1 bt284.2.2.1 bt284.2.2.2.1 bt284.2.2.2.2).bind fun t294 => ((impl_Apart.f k bt284.1 bt284.2.1 bt284.2.2.1 bt284.2.2.2.2 bt284.2.2.2.1).bind fun t295 => (if t294 = t295 then ((impl_IsCell.f k bt284.1 bt284.2.1 bt284.2.2.1 bt284.2.2.2.1).bind fun t296 => (if t296 = true then ((impl_Apart.f k bt284.1 bt284.2.1 bt284.2.2.1 bt284.2.2.2.1 bt284.2.2.2.1).bind fun t297 => (laws_FnLand.j0 k l0 (t297 != 0))) else (laws_FnLand.j0 k l0 false))) else (laws_FnLand.j0 k l0 true))))))))) = some r := H
 have A2 := Aside0.mk A20
 clear A20
 by_cases c3 : t283 = true
 ·subst c3
  have H1 : (some true) = some r := by rw [if_pos rfl] at H; exact H
  clear H
  have H := H1
  clear H1
  obtain rfl := Option.some.inj H
  go_enter Try.func13, Try.ntmps13
  go_wp2_with (first | ((with_reducible refine gate_callee (f := 27) rfl ?_); refine goesL_ (some 12) rfl rfl Try.func27 (by kernel_rfl) rfl #[.slice A0 l0.length c0] rfl (by (try simp only [List.map_toArray, List.map_cons, List.map_nil]); first | done | rfl | (simp only [List.length_drop, List.length_take]; rfl)) ?_; (with_reducible refine (laws_big.calls _ _ l0 true _ ?side1 ?side2 A2.out).mono ?_); (case side1 => repeat (first | exact HR0.out | (with_reducible refine Kd.C_alloc ?_ _) | (with_reducible refine Kd.C_drewN ?_ _) | (with_reducible refine Kd.C_drew ?_))); (case side2 => exact HC0.out); rintro e w' ⟨rfl, ⟨nd, rfl⟩⟩; refine ⟨_, rfl, ?_⟩))
  go_ret
  exact ⟨by first | rfl | (simp [errW_none, errW_some] <;> rfl) | (simp [*, errW_none, errW_some] <;> rfl), by repeat (first | (with_reducible first | exact HB.out | apply below_alloc | apply pw_below_drewN | apply below_drew1) | exact HB.out)⟩
 ·replace c3 := Bool.eq_false_iff.mpr c3
  subst c3
  have H1 : ((spec_DrawApart.f k l0).bind fun bt284 => ((impl_IsCell.f k bt284.1 bt284.2.1 bt284.2.2.1 bt284.2.2.2.1).bind fun t292 => ((spec_IsCell.f k bt284.1 bt284.2.1 bt284.2.2.1 bt284.2.2.2.1).bind fun t293 => (if (t292 != t293) = true then (some false) else ((impl_Apart.f k bt284.1 bt284.2.1 bt284.2.2.1 bt284.2.2.2.1 bt284.2.2.2.2).bind fun t294 => ((impl_Apart.f k bt284.1 bt284.2.1 bt284.2.2.1 bt284.2.2.2.2 bt284.2.2.2.1).bind fun t295 => (if t294 = t295 then ((impl_IsCell.f k bt284.1 bt284.2.1 bt284.2.2.1 bt284.2.2.2.1).bind fun t296 => (if t296 = true then ((impl_Apart.f k bt284.1 bt284.2.1 bt284.2.2.1 bt284.2.2.2.1 bt284.2.2.2.1).bind fun t297 => (laws_FnLand.j0 k l0 (t297 != 0))) else (laws_FnLand.j0 k l0 false))) else (laws_FnLand.j0 k l0 true)))))))) = some r := by rw [if_neg (show ¬ (false = true) by decide)] at H; exact H
  clear H
  have H := H1
  clear H1
  replace H := Option.bind_eq_some_iff.mp H
  obtain ⟨⟨t284, t285, t286, t289, t290⟩, A40, H⟩ := H
  replace H : ((impl_IsCell.f k t284 t285 t286 t289).bind fun t292 => ((spec_IsCell.f k t284 t285 t286 t289).bind fun t293 => (if (t292 != t293) = true then (some false) else ((impl_Apart.f k t284 t285 t286 t289 t290).bind fun t294 => ((impl_Apart.f k t284 t285 t286 t290 t289).bind fun t295 => (if t294 = t295 then ((impl_IsCell.f k t284 t285 t286 t289).bind fun t296 => (if t296 = true then ((impl_Apart.f k t284 t285 t286 t289 t289).bind fun t297 => (laws_FnLand.j0 k l0 (t297 != 0))) else (laws_FnLand.j0 k l0 false))) else (laws_FnLand.j0 k l0 true))))))) = some r := H
  have A4 := Aside0.mk A40
  clear A40
  replace H := Option.bind_eq_some_iff.mp H
  obtain ⟨t292, A50, H⟩ := H
  replace H : ((spec_IsCell.f k t284 t285 t286 t289).bind fun t293 => (if (t292 != t293) = true then (some false) else ((impl_Apart.f k t284 t285 t286 t289 t290).bind fun t294 => ((impl_Apart.f k t284 t285 t286 t290 t289).bind fun t295 => (if t294 = t295 then ((impl_IsCell.f k t284 t285 t286 t289).bind fun t296 => (if t296 = true then ((impl_Apart.f k t284 t285 t286 t289 t289).bind fun t297 => (laws_FnLand.j0 k l0 (t297 != 0))) else (laws_FnLand.j0 k l0 false))) else (laws_FnLand.j0 k l0 true)))))) = some r := H
  have A5 := Aside0.mk A50
  clear A50
  replace H := Option.bind_eq_some_iff.mp H
  obtain ⟨t293, A60, H⟩ := H
  replace H : (if (t292 != t293) = true then (some false) else ((impl_Apart.f k t284 t285 t286 t289 t290).bind fun t294 => ((impl_Apart.f k t284 t285 t286 t290 t289).bind fun t295 => (if t294 = t295 then ((impl_IsCell.f k t284 t285 t286 t289).bind fun t296 => (if t296 = true then ((impl_Apart.f k t284 t285 t286 t289 t289).bind fun t297 => (laws_FnLand.j0 k l0 (t297 != 0))) else (laws_FnLand.j0 k l0 false))) else (laws_FnLand.j0 k l0 true))))) = some r := H
  have A6 := Aside0.mk A60
  clear A60
  by_cases c7 : (t292 != t293) = true
  ·rw [if_pos c7] at H
   have c7b0 : (t292 != t293) = true := c7
   (try (have c7b1 : decide (t292 = t293) = false := by simpa using c7))
   (try (have c7b2 : (t292 == t293) = false := by simpa using c7))
   (try (have c7b3 : ¬ (t292 = t293) := by simpa using c7))
   clear c7
   obtain rfl := Option.some.inj H
   go_enter Try.func13, Try.ntmps13
   try go_wp2_with (first | ((with_reducible refine gate_callee (f := 27) rfl ?_); refine goesL_ (some 12) rfl rfl Try.func27 (by kernel_rfl) rfl #[.slice A0 l0.length c0] rfl (by (try simp only [List.map_toArray, List.map_cons, List.map_nil]); first | done | rfl | (simp only [List.length_drop, List.length_take]; rfl)) ?_; (with_reducible refine (laws_big.calls _ _ l0 false _ ?side1 ?side2 A2.out).mono ?_); (case side1 => repeat (first | exact HR0.out | (with_reducible refine Kd.C_alloc ?_ _) | (with_reducible refine Kd.C_drewN ?_ _) | (with_reducible refine Kd.C_drew ?_))); (case side2 => exact HC0.out); rintro e w' ⟨rfl, ⟨nd, rfl⟩⟩; refine ⟨_, rfl, ?_⟩) | ((with_reducible refine gate_callee (f := 71) rfl ?_); refine goesL_ (some 15) rfl rfl Try.func71 (by kernel_rfl) rfl #[.slice A0 l0.length c0] rfl (by (try simp only [List.map_toArray, List.map_cons, List.map_nil]); first | done | rfl | (simp only [List.length_drop, List.length_take]; rfl)) ?_; (with_reducible refine (spec_DrawApart.calls k _ _ l0 t284 t285 t286 t289 t290 _ ?side1 ?side2 A4.out).mono ?_); (case side1 => repeat (first | exact HR0.out | (with_reducible refine Kd.C_alloc ?_ _) | (with_reducible refine Kd.C_drewN ?_ _) | (with_reducible refine Kd.C_drew ?_))); (case side2 => exact HC0.out); rintro e w8 ⟨v287, rfl, ho0, hb⟩; refine ⟨_, rfl, ?_⟩; have n0_ := Aside0.mk (Kd.Q_lower ho0 (below_size (by repeat (first | (with_reducible first | exact HB.out | apply below_alloc | apply pw_below_drewN | apply below_drew1) | exact HB.out)))); have n1_ := Aside0.mk (below_step (by repeat (first | (with_reducible first | exact HB.out | apply below_alloc | apply pw_below_drewN | apply below_drew1) | exact HB.out)) hb); clear HB; have HO288 := n0_; have HB := n1_; clear n0_ n1_; (try clear hb); (try clear hb2); (try clear hk); (try clear hi); (try clear ho0)) | ((with_reducible refine gate_dst (N := 3) rfl ?_); (try (refine gate_guard (by rfl) ?_; dsimp only)); refine box_event ?hg (N := 3) ?hd (cs := #[.int .i64 0, .int .i64 0, .slice none 0 0]) (t := 36) ?hr ?_; (case hd => rfl); (case hg => rfl); (case hr => first | (go_simp; done) | (go_simp; rfl)); intro gb291 hg w9 hbox hb; have n0_ := Aside0.mk (Kd.Q_below (by (with_reducible repeat (first | apply Kd.Q_alloc | apply Kd.Q_drewN | apply Kd.Q_drew)); exact HO288.out) hb); have n1_ := Aside0.mk (below_step (by repeat (first | (with_reducible first | exact HB.out | apply below_alloc | apply pw_below_drewN | apply below_drew1) | exact HB.out)) hb); have n2_ := Aside0.mk (hbox); have n3_ := Aside0.mk ((by rw [hg]; exact (below_size (by repeat (first | (with_reducible first | exact HB.out | apply below_alloc | apply pw_below_drewN | apply below_drew1) | exact HB.out))) : w.heap.size ≤ gb291)); have n4_ := Aside0.mk ((by rw [hg]; exact (below_size (by repeat (first | (with_reducible first | exact HB.out | apply below_alloc | apply pw_below_drewN | apply below_drew1) | exact HB.out))) : w.heap.size ≤ gb291)); clear HO288; clear HB; have HO288 := n0_; have HB := n1_; have BK291 := n2_; have GW291 := n3_; have GE291 := n4_; clear n0_ n1_ n2_ n3_ n4_; clear hb hbox hg; have hcz10_0 : w9.cell? ⟨gb291, 0, none⟩ = some (.int .i64 0) := (blk_cell BK291.out 0).trans rfl; have hcz10_1 : w9.cell? ⟨gb291, 1, none⟩ = some (.int .i64 0) := (blk_cell BK291.out 1).trans rfl; have hcz10_2 : w9.cell? ⟨gb291, 2, none⟩ = some (.slice none 0 0) := (blk_cell BK291.out 2).trans rfl; have hfz10_0 := blk_frozen BK291.out 0; have hfz10_1 := blk_frozen BK291.out 1; have hfz10_2 := blk_frozen BK291.out 2; obtain ⟨Ao11, co11, eo11, _⟩ := Kd.Q_slice HO288.out; subst eo11))
   have n0_ : Aside0 (Kd.Q (Kd.int .i64) 3 (((w9.setCell ⟨gb291, 0, none⟩ (.int .i64 t284)).setCell ⟨gb291, 1, none⟩ (.int .i64 t285)).setCell ⟨gb291, 2, none⟩ (.slice Ao11 t286.length co11)) w.heap.size (fun _ => True) (.slice Ao11 t286.length co11) t286) := ⟨by (with_reducible repeat (first | apply Kd.Q_alloc | apply Kd.Q_drewN | apply Kd.Q_drew)); exact Kd.Q_mono (Kd.Q_far (p := ⟨gb291, 2, none⟩) (Kd.Q_far (p := ⟨gb291, 1, none⟩) (Kd.Q_far (p := ⟨gb291, 0, none⟩) (Kd.Q_types HO288.out BK291.out (by decide)) (fun _ hk => hk.2) (.int .i64 t284)) (fun _ hk => hk.2) (.int .i64 t285)) (fun _ hk => hk.2) (.slice Ao11 t286.length co11)) (fun _ hk => trivial)⟩
   have n1_ : Aside0 ((((w9.setCell ⟨gb291, 0, none⟩ (.int .i64 t284)).setCell ⟨gb291, 1, none⟩ (.int .i64 t285)).setCell ⟨gb291, 2, none⟩ (.slice Ao11 t286.length co11)).heap[gb291]? = some (.cells #[.int .i64 t284, .int .i64 t285, .slice Ao11 t286.length co11] 36 (0, 0))) := ⟨by (with_reducible repeat (first | refine blk_drewN ?_ _ | refine blk_drew ?_ | refine blk_alloc ?_ _)); refine blk_put (cs := #[.int .i64 t284, .int .i64 t285, .slice none 0 0]) ?_ 2 _ rfl; (with_reducible repeat (first | refine blk_drewN ?_ _ | refine blk_drew ?_ | refine blk_alloc ?_ _)); refine blk_put (cs := #[.int .i64 t284, .int .i64 0, .slice none 0 0]) ?_ 1 _ rfl; (with_reducible repeat (first | refine blk_drewN ?_ _ | refine blk_drew ?_ | refine blk_alloc ?_ _)); refine blk_put (cs := #[.int .i64 0, .int .i64 0, .slice none 0 0]) ?_ 0 _ rfl; (with_reducible repeat (first | refine blk_drewN ?_ _ | refine blk_drew ?_ | refine blk_alloc ?_ _)); exact BK291.out⟩
   have n2_ : Aside0 (Below w.heap.size w (((w9.setCell ⟨gb291, 0, none⟩ (.int .i64 t284)).setCell ⟨gb291, 1, none⟩ (.int .i64 t285)).setCell ⟨gb291, 2, none⟩ (.slice Ao11 t286.length co11))) := ⟨by repeat (first | (with_reducible first | exact HB.out | apply below_alloc | apply pw_below_drewN | apply below_drew1 | refine below_set ?_ GE291.out) | exact HB.out)⟩
   (try clear HO288)
   (try clear BK291)
   (try clear HB)
   generalize (((w9.setCell ⟨gb291, 0, none⟩ (.int .i64 t284)).setCell ⟨gb291, 1, none⟩ (.int .i64 t285)).setCell ⟨gb291, 2, none⟩ (.slice Ao11 t286.length co11)) = w12 at n0_ n1_ n2_ ⊢
   have HO288 := n0_
   have BK291 := n1_
   have HB := n2_
   clear n0_ n1_ n2_
   have n0_ := Aside0.mk (Kd.Q_drew HO288.out)
   have n1_ := Aside0.mk (blk_drew BK291.out)
   have n2_ := Aside0.mk (below_drew1 HB.out)
   clear HO288
   clear BK291
   clear HB
   have HO288 := n0_
   have BK291 := n1_
   have HB := n2_
   clear n0_ n1_ n2_
   refine start_ (n := 7) (S := fun w' => w'.cell? ⟨gb291, 0, none⟩ = some (.int .i64 t284) ∧ w'.cell? ⟨gb291, 1, none⟩ = some (.int .i64 t285) ∧ w'.cell? ⟨gb291, 2, none⟩ = some (.slice Ao11 t286.length co11)) (ds := []) (bz 7 0) (by kernel_rfl) rfl rfl ⟨(blk_cell BK291.out 0).trans rfl, (blk_cell BK291.out 1).trans rfl, (blk_cell BK291.out 2).trans rfl⟩ (fun hHeld => ?_)
   generalize w12.drew = w13 at HO288 BK291 HB hHeld ⊢
   refine pure_ (i := 1) (N := some 20) (v := ?_) (a' := ?_) (bz 7 2) rfl rfl (by kernel_rfl) (fun _ _ _ h => h) (Or.inl ⟨by rfl, ?_⟩) ?_ ?_; rotate_left; (intro w'; go_simp; with_reducible rfl); rotate_left; (simp only [Act.put, ls1, ls2, ls3, i64_w, i32_w]; rfl)
   refine pure_ (i := 4) (N := some 23) (v := ?_) (a' := ?_) (bz 7 18) rfl rfl (by kernel_rfl) (fun _ _ _ h => h) (Or.inl ⟨by rfl, ?_⟩) ?_ ?_; rotate_left; (intro w'; go_simp; with_reducible rfl); rotate_left; (simp only [Act.put, ls1, ls2, ls3, i64_w, i32_w]; rfl)
   refine take_ (i := 0) (N := some 19) (v := ?_) (a' := ?_) (bz 7 19) rfl rfl (by kernel_rfl) (fun _ _ _ h => h) (Or.inl ⟨by rfl, ?_⟩) hHeld ?_ ?_; rotate_left; (rintro w' ⟨s0, s1, s2⟩; go_simp; with_reducible rfl); rotate_left; (simp only [Act.put, ls1, ls2, ls3, i64_w, i32_w]; rfl)
   refine take_ (i := 3) (N := some 22) (v := ?_) (a' := ?_) (bz 7 27) rfl rfl (by kernel_rfl) (fun _ _ _ h => h) (Or.inl ⟨by rfl, ?_⟩) hHeld ?_ ?_; rotate_left; (rintro w' ⟨s0, s1, s2⟩; go_simp; with_reducible rfl); rotate_left; (simp only [Act.put, ls1, ls2, ls3, i64_w, i32_w]; rfl)
   refine one_ (i := 2) (N := some 21) (bz 7 31) rfl rfl (by kernel_rfl) (by decide) (fun K hK => ?_)
   refine goes_ Try.func72 (by kernel_rfl) rfl #[.agg #[.int .i64 t284, .int .i64 t285, .slice Ao11 t286.length co11], .int .i64 t289] (by rfl) rfl rfl (by (try simp only [List.map_toArray, List.map_cons, List.map_nil]); first | done | rfl | (simp only [List.length_drop, List.length_take]; rfl)) ?_
   with_reducible refine (impl_IsCell.calls k t284 t285 _ _ t286 t289 t292 _ ?side1 ?side2 A5.out).mono ?_
   (case side1 => repeat (first | exact (Kd.Q_reads' HO288.out).2.2 | (with_reducible refine Kd.C_alloc ?_ _) | (with_reducible refine Kd.C_drewN ?_ _) | (with_reducible refine Kd.C_drew ?_)))
   (case side2 => exact (Kd.Q_reads' HO288.out).2.1)
   rintro e w14 ⟨rfl, hb⟩
   refine ⟨_, rfl, ?_⟩
   have n0_ := Aside0.mk (Kd.Q_below (by (with_reducible repeat (first | apply Kd.Q_alloc | apply Kd.Q_drewN | apply Kd.Q_drew)); exact HO288.out) hb)
   have n1_ := Aside0.mk (blk_below (g := gb291) (o := .cells #[.int .i64 t284, .int .i64 t285, .slice Ao11 t286.length co11] 36 (0, 0)) (by (with_reducible repeat (first | refine blk_drewN ?_ _ | refine blk_drew ?_ | refine blk_alloc ?_ _)); exact BK291.out) hb)
   have n2_ := Aside0.mk (below_step (by repeat (first | (with_reducible first | exact HB.out | apply below_alloc | apply pw_below_drewN | apply below_drew1 | refine below_set ?_ GE291.out) | exact HB.out)) hb)
   clear HO288
   clear BK291
   clear HB
   have HO288 := n0_
   have BK291 := n1_
   have HB := n2_
   clear n0_ n1_ n2_
   (try clear hb)
   (try clear hb2)
   (try clear hk)
   (try clear hi)
   refine hK.out _ _ ⟨(blk_cell BK291.out 0).trans rfl, (blk_cell BK291.out 1).trans rfl, (blk_cell BK291.out 2).trans rfl⟩ (fun hHeld => ?_)
   clear hK K
   refine norm_ (a' := ?_) ?_ ?_
   rotate_left
   ·show Act.put _ (some 21) _ = _
    simp only [Act.put, ls1, ls2, ls3, i64_w, i32_w]
    rfl
   refine one_ (i := 5) (N := some 24) (bz 7 63) rfl rfl (by kernel_rfl) (by decide) (fun K hK => ?_)
   refine goes_ Try.func73 (by kernel_rfl) rfl #[.agg #[.int .i64 t284, .int .i64 t285, .slice Ao11 t286.length co11], .int .i64 t289] (by rfl) rfl rfl (by (try simp only [List.map_toArray, List.map_cons, List.map_nil]); first | done | rfl | (simp only [List.length_drop, List.length_take]; rfl)) ?_
   with_reducible refine (spec_IsCell.calls k t284 t285 _ _ t286 t289 t293 _ ?side1 ?side2 A6.out).mono ?_
   (case side1 => repeat (first | exact (Kd.Q_reads' HO288.out).2.2 | (with_reducible refine Kd.C_alloc ?_ _) | (with_reducible refine Kd.C_drewN ?_ _) | (with_reducible refine Kd.C_drew ?_)))
   (case side2 => exact (Kd.Q_reads' HO288.out).2.1)
   rintro e w15 ⟨rfl, hb⟩
   refine ⟨_, rfl, ?_⟩
   have n0_ := Aside0.mk (Kd.Q_below (by (with_reducible repeat (first | apply Kd.Q_alloc | apply Kd.Q_drewN | apply Kd.Q_drew)); exact HO288.out) hb)
   have n1_ := Aside0.mk (blk_below (g := gb291) (o := .cells #[.int .i64 t284, .int .i64 t285, .slice Ao11 t286.length co11] 36 (0, 0)) (by (with_reducible repeat (first | refine blk_drewN ?_ _ | refine blk_drew ?_ | refine blk_alloc ?_ _)); exact BK291.out) hb)
   have n2_ := Aside0.mk (below_step (by repeat (first | (with_reducible first | exact HB.out | apply below_alloc | apply pw_below_drewN | apply below_drew1 | refine below_set ?_ GE291.out) | exact HB.out)) hb)
   clear HO288
   clear BK291
   clear HB
   have HO288 := n0_
   have BK291 := n1_
   have HB := n2_
   clear n0_ n1_ n2_
   (try clear hb)
   (try clear hb2)
   (try clear hk)
   (try clear hi)
   refine hK.out _ _ ⟨(blk_cell BK291.out 0).trans rfl, (blk_cell BK291.out 1).trans rfl, (blk_cell BK291.out 2).trans rfl⟩ (fun hHeld => ?_)
   clear hK K
   refine norm_ (a' := ?_) ?_ ?_
   rotate_left
   ·show Act.put _ (some 24) _ = _
    simp only [Act.put, ls1, ls2, ls3, i64_w, i32_w]
    rfl
   refine pure_ (i := 6) (N := some 25) (v := ?_) (a' := ?_) (bz 7 127) rfl rfl (by kernel_rfl) (fun _ _ _ h => h) (Or.inl ⟨by rfl, ?_⟩) ?_ ?_; rotate_left; (intro w'; go_simp; with_reducible rfl); rotate_left; (simp only [Act.put, ls1, ls2, ls3, i64_w, i32_w]; rfl)
   refine done_ (by kernel_rfl) ?_
   try go_wp2
   go_ret
   exact ⟨by first | rfl | (simp [errW_none, errW_some] <;> rfl) | (simp [*, errW_none, errW_some] <;> rfl), by repeat (first | (with_reducible first | exact HB.out | apply below_alloc | apply pw_below_drewN | apply below_drew1 | refine below_set ?_ GE291.out) | exact HB.out)⟩
  ·rw [if_neg c7] at H
   have c7b0 : (t292 != t293) = false := by simpa using c7
   (try (have c7b1 : decide (t292 = t293) = true := by simpa using c7))
   (try (have c7b2 : (t292 == t293) = true := by simpa using c7))
   clear c7
   have HC16 := Aside0.mk H
   clear H
   go_enter Try.func13, Try.ntmps13
   try go_wp2_with (first | ((with_reducible refine gate_callee (f := 27) rfl ?_); refine goesL_ (some 12) rfl rfl Try.func27 (by kernel_rfl) rfl #[.slice A0 l0.length c0] rfl (by (try simp only [List.map_toArray, List.map_cons, List.map_nil]); first | done | rfl | (simp only [List.length_drop, List.length_take]; rfl)) ?_; (with_reducible refine (laws_big.calls _ _ l0 false _ ?side1 ?side2 A2.out).mono ?_); (case side1 => repeat (first | exact HR0.out | (with_reducible refine Kd.C_alloc ?_ _) | (with_reducible refine Kd.C_drewN ?_ _) | (with_reducible refine Kd.C_drew ?_))); (case side2 => exact HC0.out); rintro e w' ⟨rfl, ⟨nd, rfl⟩⟩; refine ⟨_, rfl, ?_⟩) | ((with_reducible refine gate_callee (f := 71) rfl ?_); refine goesL_ (some 15) rfl rfl Try.func71 (by kernel_rfl) rfl #[.slice A0 l0.length c0] rfl (by (try simp only [List.map_toArray, List.map_cons, List.map_nil]); first | done | rfl | (simp only [List.length_drop, List.length_take]; rfl)) ?_; (with_reducible refine (spec_DrawApart.calls k _ _ l0 t284 t285 t286 t289 t290 _ ?side1 ?side2 A4.out).mono ?_); (case side1 => repeat (first | exact HR0.out | (with_reducible refine Kd.C_alloc ?_ _) | (with_reducible refine Kd.C_drewN ?_ _) | (with_reducible refine Kd.C_drew ?_))); (case side2 => exact HC0.out); rintro e w17 ⟨v287, rfl, ho0, hb⟩; refine ⟨_, rfl, ?_⟩; have n0_ := Aside0.mk (Kd.Q_lower ho0 (below_size (by repeat (first | (with_reducible first | exact HB.out | apply below_alloc | apply pw_below_drewN | apply below_drew1) | exact HB.out)))); have n1_ := Aside0.mk (below_step (by repeat (first | (with_reducible first | exact HB.out | apply below_alloc | apply pw_below_drewN | apply below_drew1) | exact HB.out)) hb); clear HB; have HO288 := n0_; have HB := n1_; clear n0_ n1_; (try clear hb); (try clear hb2); (try clear hk); (try clear hi); (try clear ho0)) | ((with_reducible refine gate_dst (N := 3) rfl ?_); (try (refine gate_guard (by rfl) ?_; dsimp only)); refine box_event ?hg (N := 3) ?hd (cs := #[.int .i64 0, .int .i64 0, .slice none 0 0]) (t := 36) ?hr ?_; (case hd => rfl); (case hg => rfl); (case hr => first | (go_simp; done) | (go_simp; rfl)); intro gb291 hg w18 hbox hb; have n0_ := Aside0.mk (Kd.Q_below (by (with_reducible repeat (first | apply Kd.Q_alloc | apply Kd.Q_drewN | apply Kd.Q_drew)); exact HO288.out) hb); have n1_ := Aside0.mk (below_step (by repeat (first | (with_reducible first | exact HB.out | apply below_alloc | apply pw_below_drewN | apply below_drew1) | exact HB.out)) hb); have n2_ := Aside0.mk (hbox); have n3_ := Aside0.mk ((by rw [hg]; exact (below_size (by repeat (first | (with_reducible first | exact HB.out | apply below_alloc | apply pw_below_drewN | apply below_drew1) | exact HB.out))) : w.heap.size ≤ gb291)); have n4_ := Aside0.mk ((by rw [hg]; exact (below_size (by repeat (first | (with_reducible first | exact HB.out | apply below_alloc | apply pw_below_drewN | apply below_drew1) | exact HB.out))) : w.heap.size ≤ gb291)); clear HO288; clear HB; have HO288 := n0_; have HB := n1_; have BK291 := n2_; have GW291 := n3_; have GE291 := n4_; clear n0_ n1_ n2_ n3_ n4_; clear hb hbox hg; have hcz19_0 : w18.cell? ⟨gb291, 0, none⟩ = some (.int .i64 0) := (blk_cell BK291.out 0).trans rfl; have hcz19_1 : w18.cell? ⟨gb291, 1, none⟩ = some (.int .i64 0) := (blk_cell BK291.out 1).trans rfl; have hcz19_2 : w18.cell? ⟨gb291, 2, none⟩ = some (.slice none 0 0) := (blk_cell BK291.out 2).trans rfl; have hfz19_0 := blk_frozen BK291.out 0; have hfz19_1 := blk_frozen BK291.out 1; have hfz19_2 := blk_frozen BK291.out 2; obtain ⟨Ao20, co20, eo20, _⟩ := Kd.Q_slice HO288.out; subst eo20))
   have n0_ : Aside0 (Kd.Q (Kd.int .i64) 3 (((w18.setCell ⟨gb291, 0, none⟩ (.int .i64 t284)).setCell ⟨gb291, 1, none⟩ (.int .i64 t285)).setCell ⟨gb291, 2, none⟩ (.slice Ao20 t286.length co20)) w.heap.size (fun _ => True) (.slice Ao20 t286.length co20) t286) := ⟨by (with_reducible repeat (first | apply Kd.Q_alloc | apply Kd.Q_drewN | apply Kd.Q_drew)); exact Kd.Q_mono (Kd.Q_far (p := ⟨gb291, 2, none⟩) (Kd.Q_far (p := ⟨gb291, 1, none⟩) (Kd.Q_far (p := ⟨gb291, 0, none⟩) (Kd.Q_types HO288.out BK291.out (by decide)) (fun _ hk => hk.2) (.int .i64 t284)) (fun _ hk => hk.2) (.int .i64 t285)) (fun _ hk => hk.2) (.slice Ao20 t286.length co20)) (fun _ hk => trivial)⟩
   have n1_ : Aside0 ((((w18.setCell ⟨gb291, 0, none⟩ (.int .i64 t284)).setCell ⟨gb291, 1, none⟩ (.int .i64 t285)).setCell ⟨gb291, 2, none⟩ (.slice Ao20 t286.length co20)).heap[gb291]? = some (.cells #[.int .i64 t284, .int .i64 t285, .slice Ao20 t286.length co20] 36 (0, 0))) := ⟨by (with_reducible repeat (first | refine blk_drewN ?_ _ | refine blk_drew ?_ | refine blk_alloc ?_ _)); refine blk_put (cs := #[.int .i64 t284, .int .i64 t285, .slice none 0 0]) ?_ 2 _ rfl; (with_reducible repeat (first | refine blk_drewN ?_ _ | refine blk_drew ?_ | refine blk_alloc ?_ _)); refine blk_put (cs := #[.int .i64 t284, .int .i64 0, .slice none 0 0]) ?_ 1 _ rfl; (with_reducible repeat (first | refine blk_drewN ?_ _ | refine blk_drew ?_ | refine blk_alloc ?_ _)); refine blk_put (cs := #[.int .i64 0, .int .i64 0, .slice none 0 0]) ?_ 0 _ rfl; (with_reducible repeat (first | refine blk_drewN ?_ _ | refine blk_drew ?_ | refine blk_alloc ?_ _)); exact BK291.out⟩
   have n2_ : Aside0 (Below w.heap.size w (((w18.setCell ⟨gb291, 0, none⟩ (.int .i64 t284)).setCell ⟨gb291, 1, none⟩ (.int .i64 t285)).setCell ⟨gb291, 2, none⟩ (.slice Ao20 t286.length co20))) := ⟨by repeat (first | (with_reducible first | exact HB.out | apply below_alloc | apply pw_below_drewN | apply below_drew1 | refine below_set ?_ GE291.out) | exact HB.out)⟩
   (try clear HO288)
   (try clear BK291)
   (try clear HB)
   generalize (((w18.setCell ⟨gb291, 0, none⟩ (.int .i64 t284)).setCell ⟨gb291, 1, none⟩ (.int .i64 t285)).setCell ⟨gb291, 2, none⟩ (.slice Ao20 t286.length co20)) = w21 at n0_ n1_ n2_ ⊢
   have HO288 := n0_
   have BK291 := n1_
   have HB := n2_
   clear n0_ n1_ n2_
   have n0_ := Aside0.mk (Kd.Q_drew HO288.out)
   have n1_ := Aside0.mk (blk_drew BK291.out)
   have n2_ := Aside0.mk (below_drew1 HB.out)
   clear HO288
   clear BK291
   clear HB
   have HO288 := n0_
   have BK291 := n1_
   have HB := n2_
   clear n0_ n1_ n2_
   refine start_ (n := 7) (S := fun w' => w'.cell? ⟨gb291, 0, none⟩ = some (.int .i64 t284) ∧ w'.cell? ⟨gb291, 1, none⟩ = some (.int .i64 t285) ∧ w'.cell? ⟨gb291, 2, none⟩ = some (.slice Ao20 t286.length co20)) (ds := []) (bz 7 0) (by kernel_rfl) rfl rfl ⟨(blk_cell BK291.out 0).trans rfl, (blk_cell BK291.out 1).trans rfl, (blk_cell BK291.out 2).trans rfl⟩ (fun hHeld => ?_)
   generalize w21.drew = w22 at HO288 BK291 HB hHeld ⊢
   refine pure_ (i := 1) (N := some 20) (v := ?_) (a' := ?_) (bz 7 2) rfl rfl (by kernel_rfl) (fun _ _ _ h => h) (Or.inl ⟨by rfl, ?_⟩) ?_ ?_; rotate_left; (intro w'; go_simp; with_reducible rfl); rotate_left; (simp only [Act.put, ls1, ls2, ls3, i64_w, i32_w]; rfl)
   refine pure_ (i := 4) (N := some 23) (v := ?_) (a' := ?_) (bz 7 18) rfl rfl (by kernel_rfl) (fun _ _ _ h => h) (Or.inl ⟨by rfl, ?_⟩) ?_ ?_; rotate_left; (intro w'; go_simp; with_reducible rfl); rotate_left; (simp only [Act.put, ls1, ls2, ls3, i64_w, i32_w]; rfl)
   refine take_ (i := 0) (N := some 19) (v := ?_) (a' := ?_) (bz 7 19) rfl rfl (by kernel_rfl) (fun _ _ _ h => h) (Or.inl ⟨by rfl, ?_⟩) hHeld ?_ ?_; rotate_left; (rintro w' ⟨s0, s1, s2⟩; go_simp; with_reducible rfl); rotate_left; (simp only [Act.put, ls1, ls2, ls3, i64_w, i32_w]; rfl)
   refine take_ (i := 3) (N := some 22) (v := ?_) (a' := ?_) (bz 7 27) rfl rfl (by kernel_rfl) (fun _ _ _ h => h) (Or.inl ⟨by rfl, ?_⟩) hHeld ?_ ?_; rotate_left; (rintro w' ⟨s0, s1, s2⟩; go_simp; with_reducible rfl); rotate_left; (simp only [Act.put, ls1, ls2, ls3, i64_w, i32_w]; rfl)
   refine one_ (i := 2) (N := some 21) (bz 7 31) rfl rfl (by kernel_rfl) (by decide) (fun K hK => ?_)
   refine goes_ Try.func72 (by kernel_rfl) rfl #[.agg #[.int .i64 t284, .int .i64 t285, .slice Ao20 t286.length co20], .int .i64 t289] (by rfl) rfl rfl (by (try simp only [List.map_toArray, List.map_cons, List.map_nil]); first | done | rfl | (simp only [List.length_drop, List.length_take]; rfl)) ?_
   with_reducible refine (impl_IsCell.calls k t284 t285 _ _ t286 t289 t292 _ ?side1 ?side2 A5.out).mono ?_
   (case side1 => repeat (first | exact (Kd.Q_reads' HO288.out).2.2 | (with_reducible refine Kd.C_alloc ?_ _) | (with_reducible refine Kd.C_drewN ?_ _) | (with_reducible refine Kd.C_drew ?_)))
   (case side2 => exact (Kd.Q_reads' HO288.out).2.1)
   rintro e w23 ⟨rfl, hb⟩
   refine ⟨_, rfl, ?_⟩
   have n0_ := Aside0.mk (Kd.Q_below (by (with_reducible repeat (first | apply Kd.Q_alloc | apply Kd.Q_drewN | apply Kd.Q_drew)); exact HO288.out) hb)
   have n1_ := Aside0.mk (blk_below (g := gb291) (o := .cells #[.int .i64 t284, .int .i64 t285, .slice Ao20 t286.length co20] 36 (0, 0)) (by (with_reducible repeat (first | refine blk_drewN ?_ _ | refine blk_drew ?_ | refine blk_alloc ?_ _)); exact BK291.out) hb)
   have n2_ := Aside0.mk (below_step (by repeat (first | (with_reducible first | exact HB.out | apply below_alloc | apply pw_below_drewN | apply below_drew1 | refine below_set ?_ GE291.out) | exact HB.out)) hb)
   clear HO288
   clear BK291
   clear HB
   have HO288 := n0_
   have BK291 := n1_
   have HB := n2_
   clear n0_ n1_ n2_
   (try clear hb)
   (try clear hb2)
   (try clear hk)
   (try clear hi)
   refine hK.out _ _ ⟨(blk_cell BK291.out 0).trans rfl, (blk_cell BK291.out 1).trans rfl, (blk_cell BK291.out 2).trans rfl⟩ (fun hHeld => ?_)
   clear hK K
   refine norm_ (a' := ?_) ?_ ?_
   rotate_left
   ·show Act.put _ (some 21) _ = _
    simp only [Act.put, ls1, ls2, ls3, i64_w, i32_w]
    rfl
   refine one_ (i := 5) (N := some 24) (bz 7 63) rfl rfl (by kernel_rfl) (by decide) (fun K hK => ?_)
   refine goes_ Try.func73 (by kernel_rfl) rfl #[.agg #[.int .i64 t284, .int .i64 t285, .slice Ao20 t286.length co20], .int .i64 t289] (by rfl) rfl rfl (by (try simp only [List.map_toArray, List.map_cons, List.map_nil]); first | done | rfl | (simp only [List.length_drop, List.length_take]; rfl)) ?_
   with_reducible refine (spec_IsCell.calls k t284 t285 _ _ t286 t289 t293 _ ?side1 ?side2 A6.out).mono ?_
   (case side1 => repeat (first | exact (Kd.Q_reads' HO288.out).2.2 | (with_reducible refine Kd.C_alloc ?_ _) | (with_reducible refine Kd.C_drewN ?_ _) | (with_reducible refine Kd.C_drew ?_)))
   (case side2 => exact (Kd.Q_reads' HO288.out).2.1)
   rintro e w24 ⟨rfl, hb⟩
   refine ⟨_, rfl, ?_⟩
   have n0_ := Aside0.mk (Kd.Q_below (by (with_reducible repeat (first | apply Kd.Q_alloc | apply Kd.Q_drewN | apply Kd.Q_drew)); exact HO288.out) hb)
   have n1_ := Aside0.mk (blk_below (g := gb291) (o := .cells #[.int .i64 t284, .int .i64 t285, .slice Ao20 t286.length co20] 36 (0, 0)) (by (with_reducible repeat (first | refine blk_drewN ?_ _ | refine blk_drew ?_ | refine blk_alloc ?_ _)); exact BK291.out) hb)
   have n2_ := Aside0.mk (below_step (by repeat (first | (with_reducible first | exact HB.out | apply below_alloc | apply pw_below_drewN | apply below_drew1 | refine below_set ?_ GE291.out) | exact HB.out)) hb)
   clear HO288
   clear BK291
   clear HB
   have HO288 := n0_
   have BK291 := n1_
   have HB := n2_
   clear n0_ n1_ n2_
   (try clear hb)
   (try clear hb2)
   (try clear hk)
   (try clear hi)
   refine hK.out _ _ ⟨(blk_cell BK291.out 0).trans rfl, (blk_cell BK291.out 1).trans rfl, (blk_cell BK291.out 2).trans rfl⟩ (fun hHeld => ?_)
   clear hK K
   refine norm_ (a' := ?_) ?_ ?_
   rotate_left
   ·show Act.put _ (some 24) _ = _
    simp only [Act.put, ls1, ls2, ls3, i64_w, i32_w]
    rfl
   refine pure_ (i := 6) (N := some 25) (v := ?_) (a' := ?_) (bz 7 127) rfl rfl (by kernel_rfl) (fun _ _ _ h => h) (Or.inl ⟨by rfl, ?_⟩) ?_ ?_; rotate_left; (intro w'; go_simp; with_reducible rfl); rotate_left; (simp only [Act.put, ls1, ls2, ls3, i64_w, i32_w]; rfl)
   refine done_ (by kernel_rfl) ?_
   go_upto_region 6 with (fail)
   go_cut [46] (fun v46 wc => ∃ (kq : Nat) (x46_15 : Bool), v46 = .bool x46_15 ∧ Aside0 (laws_FnLand.j0 kq l0 x46_15 = some r) ∧ Aside0 (kq ≤ k) ∧ Aside0 (Kd.Q (Kd.int .i64) 3 wc w.heap.size (fun _ => True) (.slice Ao20 t286.length co20) t286) ∧ Aside0 (wc.heap[gb291]? = some (.cells #[.int .i64 t284, .int .i64 t285, (.slice Ao20 t286.length co20)] 36 (0, 0))) ∧ Aside0 (Below w.heap.size w wc))
   case first =>
    have H := HC16.out
    clear HC16
    replace H := Option.bind_eq_some_iff.mp H
    obtain ⟨t294, A250, H⟩ := H
    replace H : ((impl_Apart.f k t284 t285 t286 t290 t289).bind fun t295 => (if t294 = t295 then ((impl_IsCell.f k t284 t285 t286 t289).bind fun t296 => (if t296 = true then ((impl_Apart.f k t284 t285 t286 t289 t289).bind fun t297 => (laws_FnLand.j0 k l0 (t297 != 0))) else (laws_FnLand.j0 k l0 false))) else (laws_FnLand.j0 k l0 true))) = some r := H
    have A25 := Aside0.mk A250
    clear A250
    replace H := Option.bind_eq_some_iff.mp H
    obtain ⟨t295, A260, H⟩ := H
    replace H : (if t294 = t295 then ((impl_IsCell.f k t284 t285 t286 t289).bind fun t296 => (if t296 = true then ((impl_Apart.f k t284 t285 t286 t289 t289).bind fun t297 => (laws_FnLand.j0 k l0 (t297 != 0))) else (laws_FnLand.j0 k l0 false))) else (laws_FnLand.j0 k l0 true)) = some r := H
    have A26 := Aside0.mk A260
    clear A260
    by_cases c27 : t294 = t295
    ·rw [if_pos c27] at H
     have c27b0 : (t294 == t295) = true := beq_iff_eq.mpr c27
     have c27b1 : (t294 != t295) = false := bne_eq_false_iff_eq.mpr c27
     clear c27
     (first | rw [c27b0] | (simp only [i64_w, i32_w]; rw [c27b0]) | skip)
     replace H := Option.bind_eq_some_iff.mp H
     obtain ⟨t296, A280, H⟩ := H
     replace H : (if t296 = true then ((impl_Apart.f k t284 t285 t286 t289 t289).bind fun t297 => (laws_FnLand.j0 k l0 (t297 != 0))) else (laws_FnLand.j0 k l0 false)) = some r := H
     have A28 := Aside0.mk A280
     clear A280
     by_cases c29 : t296 = true
     ·subst c29
      have H1 : ((impl_Apart.f k t284 t285 t286 t289 t289).bind fun t297 => (laws_FnLand.j0 k l0 (t297 != 0))) = some r := by rw [if_pos rfl] at H; exact H
      clear H
      have H := H1
      clear H1
      replace H := Option.bind_eq_some_iff.mp H
      obtain ⟨t297, A300, H⟩ := H
      replace H : (laws_FnLand.j0 k l0 (t297 != 0)) = some r := H
      have A30 := Aside0.mk A300
      clear A300
      have H' := Aside0.mk H
      clear H
      try go_wp2
      have n0_ := Aside0.mk (Kd.Q_drew HO288.out)
      have n1_ := Aside0.mk (blk_drew BK291.out)
      have n2_ := Aside0.mk (below_drew1 HB.out)
      clear HO288
      clear BK291
      clear HB
      have HO288 := n0_
      have BK291 := n1_
      have HB := n2_
      clear n0_ n1_ n2_
      refine start_ (n := 21) (S := fun w' => w'.cell? ⟨gb291, 0, none⟩ = some (.int .i64 t284) ∧ w'.cell? ⟨gb291, 1, none⟩ = some (.int .i64 t285) ∧ w'.cell? ⟨gb291, 2, none⟩ = some (.slice Ao20 t286.length co20)) (ds := []) (bz 21 0) (by kernel_rfl) rfl rfl ⟨(blk_cell BK291.out 0).trans rfl, (blk_cell BK291.out 1).trans rfl, (blk_cell BK291.out 2).trans rfl⟩ (fun hHeld => ?_); refine with_tabW laws_FnLand.tab6 laws_FnLand.bits6 (fun HT_ HW_ => ?_)
      generalize w24.drew = w31 at HO288 BK291 HB hHeld ⊢
      refine pure_ (i := 1) (N := some 27) (v := ?_) (a' := ?_) (bz 21 2) rfl rfl (any_of HT_.out (by kernel_rfl)) (fun _ _ _ h => h) (Or.inl ⟨by rfl, ?_⟩) ?_ ?_; rotate_left; (intro w'; go_simp; with_reducible rfl); rotate_left; (simp only [Act.put, ls1, ls2, ls3, i64_w, i32_w]; rfl)
      refine pure_ (i := 2) (N := some 28) (v := ?_) (a' := ?_) (bz 21 6) rfl rfl (any_of HT_.out (by kernel_rfl)) (fun _ _ _ h => h) (Or.inl ⟨by rfl, ?_⟩) ?_ ?_; rotate_left; (intro w'; go_simp; with_reducible rfl); rotate_left; (simp only [Act.put, ls1, ls2, ls3, i64_w, i32_w]; rfl)
      refine pure_ (i := 5) (N := some 31) (v := ?_) (a' := ?_) (bz 21 38) rfl rfl (any_of HT_.out (by kernel_rfl)) (fun _ _ _ h => h) (Or.inl ⟨by rfl, ?_⟩) ?_ ?_; rotate_left; (intro w'; go_simp; with_reducible rfl); rotate_left; (simp only [Act.put, ls1, ls2, ls3, i64_w, i32_w]; rfl)
      refine pure_ (i := 6) (N := some 32) (v := ?_) (a' := ?_) (bz 21 102) rfl rfl (any_of HT_.out (by kernel_rfl)) (fun _ _ _ h => h) (Or.inl ⟨by rfl, ?_⟩) ?_ ?_; rotate_left; (intro w'; go_simp; with_reducible rfl); rotate_left; (simp only [Act.put, ls1, ls2, ls3, i64_w, i32_w]; rfl)
      refine take_ (i := 0) (N := some 26) (v := ?_) (a' := ?_) (bz 21 103) rfl rfl (take_ofW HT_.out HW_.out (by kernel_rfl)) (fun _ _ _ h => h) (Or.inl ⟨by rfl, ?_⟩) hHeld ?_ ?_; rotate_left; (rintro w' ⟨s0, s1, s2⟩; go_simp; with_reducible rfl); rotate_left; (simp only [Act.put, ls1, ls2, ls3, i64_w, i32_w]; rfl)
      refine take_ (i := 4) (N := some 30) (v := ?_) (a' := ?_) (bz 21 119) rfl rfl (take_ofW HT_.out HW_.out (by kernel_rfl)) (fun _ _ _ h => h) (Or.inl ⟨by rfl, ?_⟩) hHeld ?_ ?_; rotate_left; (rintro w' ⟨s0, s1, s2⟩; go_simp; with_reducible rfl); rotate_left; (simp only [Act.put, ls1, ls2, ls3, i64_w, i32_w]; rfl)
      refine one_ (i := 3) (N := some 29) (bz 21 127) rfl rfl (one_of HT_.out (by kernel_rfl)) (by decide) (fun K hK => ?_)
      refine goes_ Try.func26 (by kernel_rfl) rfl #[.agg #[.int .i64 t284, .int .i64 t285, .slice Ao20 t286.length co20], .int .i64 t289, .int .i64 t290] (by rfl) rfl rfl (by (try simp only [List.map_toArray, List.map_cons, List.map_nil]); first | done | rfl | (simp only [List.length_drop, List.length_take]; rfl)) ?_
      with_reducible refine (impl_Apart.calls k t284 t285 _ _ t286 t289 t290 t294 _ ?side1 ?side2 A25.out).mono ?_
      (case side1 => repeat (first | exact (Kd.Q_reads' HO288.out).2.2 | (with_reducible refine Kd.C_alloc ?_ _) | (with_reducible refine Kd.C_drewN ?_ _) | (with_reducible refine Kd.C_drew ?_)))
      (case side2 => exact (Kd.Q_reads' HO288.out).2.1)
      rintro e w32 ⟨rfl, hb⟩
      refine ⟨_, rfl, ?_⟩
      have n0_ := Aside0.mk (Kd.Q_below (by (with_reducible repeat (first | apply Kd.Q_alloc | apply Kd.Q_drewN | apply Kd.Q_drew)); exact HO288.out) hb)
      have n1_ := Aside0.mk (blk_below (g := gb291) (o := .cells #[.int .i64 t284, .int .i64 t285, .slice Ao20 t286.length co20] 36 (0, 0)) (by (with_reducible repeat (first | refine blk_drewN ?_ _ | refine blk_drew ?_ | refine blk_alloc ?_ _)); exact BK291.out) hb)
      have n2_ := Aside0.mk (below_step (by repeat (first | (with_reducible first | exact HB.out | apply below_alloc | apply pw_below_drewN | apply below_drew1 | refine below_set ?_ GE291.out) | exact HB.out)) hb)
      clear HO288
      clear BK291
      clear HB
      have HO288 := n0_
      have BK291 := n1_
      have HB := n2_
      clear n0_ n1_ n2_
      (try clear hb)
      (try clear hb2)
      (try clear hk)
      (try clear hi)
      refine hK.out _ _ ⟨(blk_cell BK291.out 0).trans rfl, (blk_cell BK291.out 1).trans rfl, (blk_cell BK291.out 2).trans rfl⟩ (fun hHeld => ?_)
      clear hK K
      refine norm_ (a' := ?_) ?_ ?_
      rotate_left
      ·show Act.put _ (some 29) _ = _
       simp only [Act.put, ls1, ls2, ls3, i64_w, i32_w]
       rfl
      refine one_ (i := 7) (N := some 33) (bz 21 255) rfl rfl (one_of HT_.out (by kernel_rfl)) (by decide) (fun K hK => ?_)
      refine goes_ Try.func26 (by kernel_rfl) rfl #[.agg #[.int .i64 t284, .int .i64 t285, .slice Ao20 t286.length co20], .int .i64 t290, .int .i64 t289] (by rfl) rfl rfl (by (try simp only [List.map_toArray, List.map_cons, List.map_nil]); first | done | rfl | (simp only [List.length_drop, List.length_take]; rfl)) ?_
      with_reducible refine (impl_Apart.calls k t284 t285 _ _ t286 t290 t289 t295 _ ?side1 ?side2 A26.out).mono ?_
      (case side1 => repeat (first | exact (Kd.Q_reads' HO288.out).2.2 | (with_reducible refine Kd.C_alloc ?_ _) | (with_reducible refine Kd.C_drewN ?_ _) | (with_reducible refine Kd.C_drew ?_)))
      (case side2 => exact (Kd.Q_reads' HO288.out).2.1)
      rintro e w33 ⟨rfl, hb⟩
      refine ⟨_, rfl, ?_⟩
      have n0_ := Aside0.mk (Kd.Q_below (by (with_reducible repeat (first | apply Kd.Q_alloc | apply Kd.Q_drewN | apply Kd.Q_drew)); exact HO288.out) hb)
      have n1_ := Aside0.mk (blk_below (g := gb291) (o := .cells #[.int .i64 t284, .int .i64 t285, .slice Ao20 t286.length co20] 36 (0, 0)) (by (with_reducible repeat (first | refine blk_drewN ?_ _ | refine blk_drew ?_ | refine blk_alloc ?_ _)); exact BK291.out) hb)
      have n2_ := Aside0.mk (below_step (by repeat (first | (with_reducible first | exact HB.out | apply below_alloc | apply pw_below_drewN | apply below_drew1 | refine below_set ?_ GE291.out) | exact HB.out)) hb)
      clear HO288
      clear BK291
      clear HB
      have HO288 := n0_
      have BK291 := n1_
      have HB := n2_
      clear n0_ n1_ n2_
      (try clear hb)
      (try clear hb2)
      (try clear hk)
      (try clear hi)
      refine hK.out _ _ ⟨(blk_cell BK291.out 0).trans rfl, (blk_cell BK291.out 1).trans rfl, (blk_cell BK291.out 2).trans rfl⟩ (fun hHeld => ?_)
      clear hK K
      refine norm_ (a' := ?_) ?_ ?_
      rotate_left
      ·show Act.put _ (some 33) _ = _
       simp only [Act.put, ls1, ls2, ls3, i64_w, i32_w]
       rfl
      refine pure_ (i := 8) (N := some 34) (v := ?_) (a' := ?_) (bz 21 511) rfl rfl (any_of HT_.out (by kernel_rfl)) (fun _ _ _ h => h) (Or.inl ⟨by rfl, ?_⟩) ?_ ?_; rotate_left; (intro w'; go_simp; with_reducible rfl); rotate_left; (simp only [Act.put, ls1, ls2, ls3, i64_w, i32_w]; rfl)
      refine pure_ (i := 9) (N := some 35) (v := ?_) (a' := ?_) (bz 21 1023) rfl rfl (any_of HT_.out (by kernel_rfl)) (fun _ _ _ h => h) (Or.inl ⟨by rfl, ?_⟩) ?_ ?_; rotate_left; (intro w'; go_simp; with_reducible rfl); rotate_left; (simp only [Act.put, ls1, ls2, ls3, i64_w, i32_w]; rfl)
      refine pure_ (i := 11) (N := some 37) (v := ?_) (a' := ?_) (bz 21 3071) rfl rfl (any_of HT_.out (by kernel_rfl)) (fun _ _ _ h => h) (Or.inl ⟨by rfl, ?_⟩) ?_ ?_; rotate_left; (intro w'; go_simp; with_reducible rfl); rotate_left; (simp only [Act.put, ls1, ls2, ls3, i64_w, i32_w]; rfl)
      refine take_ (i := 10) (N := some 36) (v := ?_) (a' := ?_) (bz 21 4095) rfl rfl (take_ofW HT_.out HW_.out (by kernel_rfl)) (fun _ _ _ h => h) (Or.inl ⟨by rfl, ?_⟩) hHeld ?_ ?_; rotate_left; (rintro w' ⟨s0, s1, s2⟩; go_simp; with_reducible rfl); rotate_left; (simp only [Act.put, ls1, ls2, ls3, i64_w, i32_w]; rfl)
      refine one_ (i := 12) (N := some 38) (bz 21 8191) rfl rfl (one_of HT_.out (by kernel_rfl)) (by decide) (fun K hK => ?_)
      refine goes_ Try.func72 (by kernel_rfl) rfl #[.agg #[.int .i64 t284, .int .i64 t285, .slice Ao20 t286.length co20], .int .i64 t289] (by rfl) rfl rfl (by (try simp only [List.map_toArray, List.map_cons, List.map_nil]); first | done | rfl | (simp only [List.length_drop, List.length_take]; rfl)) ?_
      with_reducible refine (impl_IsCell.calls k t284 t285 _ _ t286 t289 true _ ?side1 ?side2 A28.out).mono ?_
      (case side1 => repeat (first | exact (Kd.Q_reads' HO288.out).2.2 | (with_reducible refine Kd.C_alloc ?_ _) | (with_reducible refine Kd.C_drewN ?_ _) | (with_reducible refine Kd.C_drew ?_)))
      (case side2 => exact (Kd.Q_reads' HO288.out).2.1)
      rintro e w34 ⟨rfl, hb⟩
      refine ⟨_, rfl, ?_⟩
      have n0_ := Aside0.mk (Kd.Q_below (by (with_reducible repeat (first | apply Kd.Q_alloc | apply Kd.Q_drewN | apply Kd.Q_drew)); exact HO288.out) hb)
      have n1_ := Aside0.mk (blk_below (g := gb291) (o := .cells #[.int .i64 t284, .int .i64 t285, .slice Ao20 t286.length co20] 36 (0, 0)) (by (with_reducible repeat (first | refine blk_drewN ?_ _ | refine blk_drew ?_ | refine blk_alloc ?_ _)); exact BK291.out) hb)
      have n2_ := Aside0.mk (below_step (by repeat (first | (with_reducible first | exact HB.out | apply below_alloc | apply pw_below_drewN | apply below_drew1 | refine below_set ?_ GE291.out) | exact HB.out)) hb)
      clear HO288
      clear BK291
      clear HB
      have HO288 := n0_
      have BK291 := n1_
      have HB := n2_
      clear n0_ n1_ n2_
      (try clear hb)
      (try clear hb2)
      (try clear hk)
      (try clear hi)
      refine hK.out _ _ ⟨(blk_cell BK291.out 0).trans rfl, (blk_cell BK291.out 1).trans rfl, (blk_cell BK291.out 2).trans rfl⟩ (fun hHeld => ?_)
      clear hK K
      refine norm_ (a' := ?_) ?_ ?_
      rotate_left
      ·show Act.put _ (some 38) _ = _
       simp only [Act.put, ls1, ls2, ls3, i64_w, i32_w]
       rfl
      refine pure_ (i := 13) (N := some 39) (v := ?_) (a' := ?_) (bz 21 16383) rfl rfl (any_of HT_.out (by kernel_rfl)) (fun _ _ _ h => h) (Or.inl ⟨by rfl, ?_⟩) ?_ ?_; rotate_left; (intro w'; go_simp; with_reducible rfl); rotate_left; (simp only [Act.put, ls1, ls2, ls3, i64_w, i32_w]; rfl)
      refine pure_ (i := 15) (N := some 41) (v := ?_) (a' := ?_) (bz 21 49151) rfl rfl (any_of HT_.out (by kernel_rfl)) (fun _ _ _ h => h) (Or.inl ⟨by rfl, ?_⟩) ?_ ?_; rotate_left; (intro w'; go_simp; with_reducible rfl); rotate_left; (simp only [Act.put, ls1, ls2, ls3, i64_w, i32_w]; rfl)
      refine pure_ (i := 16) (N := some 42) (v := ?_) (a' := ?_) (bz 21 114687) rfl rfl (any_of HT_.out (by kernel_rfl)) (fun _ _ _ h => h) (Or.inl ⟨by rfl, ?_⟩) ?_ ?_; rotate_left; (intro w'; go_simp; with_reducible rfl); rotate_left; (simp only [Act.put, ls1, ls2, ls3, i64_w, i32_w]; rfl)
      refine take_ (i := 14) (N := some 40) (v := ?_) (a' := ?_) (bz 21 131071) rfl rfl (take_ofW HT_.out HW_.out (by kernel_rfl)) (fun _ _ _ h => h) (Or.inl ⟨by rfl, ?_⟩) hHeld ?_ ?_; rotate_left; (rintro w' ⟨s0, s1, s2⟩; go_simp; with_reducible rfl); rotate_left; (simp only [Act.put, ls1, ls2, ls3, i64_w, i32_w]; rfl)
      refine one_ (i := 17) (N := some 43) (bz 21 262143) rfl rfl (one_of HT_.out (by kernel_rfl)) (by decide) (fun K hK => ?_)
      refine goes_ Try.func26 (by kernel_rfl) rfl #[.agg #[.int .i64 t284, .int .i64 t285, .slice Ao20 t286.length co20], .int .i64 t289, .int .i64 t289] (by rfl) rfl rfl (by (try simp only [List.map_toArray, List.map_cons, List.map_nil]); first | done | rfl | (simp only [List.length_drop, List.length_take]; rfl)) ?_
      with_reducible refine (impl_Apart.calls k t284 t285 _ _ t286 t289 t289 t297 _ ?side1 ?side2 A30.out).mono ?_
      (case side1 => repeat (first | exact (Kd.Q_reads' HO288.out).2.2 | (with_reducible refine Kd.C_alloc ?_ _) | (with_reducible refine Kd.C_drewN ?_ _) | (with_reducible refine Kd.C_drew ?_)))
      (case side2 => exact (Kd.Q_reads' HO288.out).2.1)
      rintro e w35 ⟨rfl, hb⟩
      refine ⟨_, rfl, ?_⟩
      have n0_ := Aside0.mk (Kd.Q_below (by (with_reducible repeat (first | apply Kd.Q_alloc | apply Kd.Q_drewN | apply Kd.Q_drew)); exact HO288.out) hb)
      have n1_ := Aside0.mk (blk_below (g := gb291) (o := .cells #[.int .i64 t284, .int .i64 t285, .slice Ao20 t286.length co20] 36 (0, 0)) (by (with_reducible repeat (first | refine blk_drewN ?_ _ | refine blk_drew ?_ | refine blk_alloc ?_ _)); exact BK291.out) hb)
      have n2_ := Aside0.mk (below_step (by repeat (first | (with_reducible first | exact HB.out | apply below_alloc | apply pw_below_drewN | apply below_drew1 | refine below_set ?_ GE291.out) | exact HB.out)) hb)
      clear HO288
      clear BK291
      clear HB
      have HO288 := n0_
      have BK291 := n1_
      have HB := n2_
      clear n0_ n1_ n2_
      (try clear hb)
      (try clear hb2)
      (try clear hk)
      (try clear hi)
      refine hK.out _ _ ⟨(blk_cell BK291.out 0).trans rfl, (blk_cell BK291.out 1).trans rfl, (blk_cell BK291.out 2).trans rfl⟩ (fun hHeld => ?_)
      clear hK K
      refine norm_ (a' := ?_) ?_ ?_
      rotate_left
      ·show Act.put _ (some 43) _ = _
       simp only [Act.put, ls1, ls2, ls3, i64_w, i32_w]
       rfl
      refine pure_ (i := 18) (N := some 44) (v := ?_) (a' := ?_) (bz 21 524287) rfl rfl (any_of HT_.out (by kernel_rfl)) (fun _ _ _ h => h) (Or.inl ⟨by rfl, ?_⟩) ?_ ?_; rotate_left; (intro w'; go_simp; with_reducible rfl); rotate_left; (simp only [Act.put, ls1, ls2, ls3, i64_w, i32_w]; rfl)
      refine pure_ (i := 19) (N := some 45) (v := ?_) (a' := ?_) (bz 21 1048575) rfl rfl (any_of HT_.out (by kernel_rfl)) (fun _ _ _ h => h) (Or.inl ⟨by rfl, ?_⟩) ?_ ?_; rotate_left; (intro w'; go_simp; with_reducible rfl); rotate_left; (simp only [Act.put, ls1, ls2, ls3, i64_w, i32_w]; rfl)
      refine pure_ (i := 20) (N := some 46) (v := ?_) (a' := ?_) (bz 21 2097151) rfl rfl (any_of HT_.out (by kernel_rfl)) (fun _ _ _ h => h) (Or.inl ⟨by rfl, ?_⟩) ?_ ?_; rotate_left; (intro w'; go_simp; with_reducible rfl); rotate_left; (simp only [Act.put, ls1, ls2, ls3, i64_w, i32_w]; rfl)
      refine done_ (done_of HT_.out (by kernel_rfl)) ?_
      try go_wp2
      go_meet
      case rel => exact ⟨_, ((t297 != 0)), (by first | rfl | (simp; done) | (simp [*]; done)), H', ⟨by first | omega | exact Nat.le_refl _⟩, ⟨by (with_reducible repeat (first | apply Kd.Q_alloc | apply Kd.Q_drewN | apply Kd.Q_drew)); exact HO288.out⟩, ⟨by (with_reducible repeat (first | refine blk_drewN ?_ _ | refine blk_drew ?_ | refine blk_alloc ?_ _)); exact BK291.out⟩, ⟨by repeat (first | (with_reducible first | exact HB.out | apply below_alloc | apply pw_below_drewN | apply below_drew1 | refine below_set ?_ GE291.out) | exact HB.out)⟩⟩
     ·replace c29 := Bool.eq_false_iff.mpr c29
      subst c29
      have H1 : (laws_FnLand.j0 k l0 false) = some r := by rw [if_neg (show ¬ (false = true) by decide)] at H; exact H
      clear H
      have H := H1
      clear H1
      have H' := Aside0.mk H
      clear H
      try go_wp2
      have n0_ := Aside0.mk (Kd.Q_drew HO288.out)
      have n1_ := Aside0.mk (blk_drew BK291.out)
      have n2_ := Aside0.mk (below_drew1 HB.out)
      clear HO288
      clear BK291
      clear HB
      have HO288 := n0_
      have BK291 := n1_
      have HB := n2_
      clear n0_ n1_ n2_
      refine start_ (n := 21) (S := fun w' => w'.cell? ⟨gb291, 0, none⟩ = some (.int .i64 t284) ∧ w'.cell? ⟨gb291, 1, none⟩ = some (.int .i64 t285) ∧ w'.cell? ⟨gb291, 2, none⟩ = some (.slice Ao20 t286.length co20)) (ds := []) (bz 21 0) (by kernel_rfl) rfl rfl ⟨(blk_cell BK291.out 0).trans rfl, (blk_cell BK291.out 1).trans rfl, (blk_cell BK291.out 2).trans rfl⟩ (fun hHeld => ?_); refine with_tabW laws_FnLand.tab6 laws_FnLand.bits6 (fun HT_ HW_ => ?_)
      generalize w24.drew = w36 at HO288 BK291 HB hHeld ⊢
      refine pure_ (i := 1) (N := some 27) (v := ?_) (a' := ?_) (bz 21 2) rfl rfl (any_of HT_.out (by kernel_rfl)) (fun _ _ _ h => h) (Or.inl ⟨by rfl, ?_⟩) ?_ ?_; rotate_left; (intro w'; go_simp; with_reducible rfl); rotate_left; (simp only [Act.put, ls1, ls2, ls3, i64_w, i32_w]; rfl)
      refine pure_ (i := 2) (N := some 28) (v := ?_) (a' := ?_) (bz 21 6) rfl rfl (any_of HT_.out (by kernel_rfl)) (fun _ _ _ h => h) (Or.inl ⟨by rfl, ?_⟩) ?_ ?_; rotate_left; (intro w'; go_simp; with_reducible rfl); rotate_left; (simp only [Act.put, ls1, ls2, ls3, i64_w, i32_w]; rfl)
      refine pure_ (i := 5) (N := some 31) (v := ?_) (a' := ?_) (bz 21 38) rfl rfl (any_of HT_.out (by kernel_rfl)) (fun _ _ _ h => h) (Or.inl ⟨by rfl, ?_⟩) ?_ ?_; rotate_left; (intro w'; go_simp; with_reducible rfl); rotate_left; (simp only [Act.put, ls1, ls2, ls3, i64_w, i32_w]; rfl)
      refine pure_ (i := 6) (N := some 32) (v := ?_) (a' := ?_) (bz 21 102) rfl rfl (any_of HT_.out (by kernel_rfl)) (fun _ _ _ h => h) (Or.inl ⟨by rfl, ?_⟩) ?_ ?_; rotate_left; (intro w'; go_simp; with_reducible rfl); rotate_left; (simp only [Act.put, ls1, ls2, ls3, i64_w, i32_w]; rfl)
      refine take_ (i := 0) (N := some 26) (v := ?_) (a' := ?_) (bz 21 103) rfl rfl (take_ofW HT_.out HW_.out (by kernel_rfl)) (fun _ _ _ h => h) (Or.inl ⟨by rfl, ?_⟩) hHeld ?_ ?_; rotate_left; (rintro w' ⟨s0, s1, s2⟩; go_simp; with_reducible rfl); rotate_left; (simp only [Act.put, ls1, ls2, ls3, i64_w, i32_w]; rfl)
      refine take_ (i := 4) (N := some 30) (v := ?_) (a' := ?_) (bz 21 119) rfl rfl (take_ofW HT_.out HW_.out (by kernel_rfl)) (fun _ _ _ h => h) (Or.inl ⟨by rfl, ?_⟩) hHeld ?_ ?_; rotate_left; (rintro w' ⟨s0, s1, s2⟩; go_simp; with_reducible rfl); rotate_left; (simp only [Act.put, ls1, ls2, ls3, i64_w, i32_w]; rfl)
      refine one_ (i := 3) (N := some 29) (bz 21 127) rfl rfl (one_of HT_.out (by kernel_rfl)) (by decide) (fun K hK => ?_)
      refine goes_ Try.func26 (by kernel_rfl) rfl #[.agg #[.int .i64 t284, .int .i64 t285, .slice Ao20 t286.length co20], .int .i64 t289, .int .i64 t290] (by rfl) rfl rfl (by (try simp only [List.map_toArray, List.map_cons, List.map_nil]); first | done | rfl | (simp only [List.length_drop, List.length_take]; rfl)) ?_
      with_reducible refine (impl_Apart.calls k t284 t285 _ _ t286 t289 t290 t294 _ ?side1 ?side2 A25.out).mono ?_
      (case side1 => repeat (first | exact (Kd.Q_reads' HO288.out).2.2 | (with_reducible refine Kd.C_alloc ?_ _) | (with_reducible refine Kd.C_drewN ?_ _) | (with_reducible refine Kd.C_drew ?_)))
      (case side2 => exact (Kd.Q_reads' HO288.out).2.1)
      rintro e w37 ⟨rfl, hb⟩
      refine ⟨_, rfl, ?_⟩
      have n0_ := Aside0.mk (Kd.Q_below (by (with_reducible repeat (first | apply Kd.Q_alloc | apply Kd.Q_drewN | apply Kd.Q_drew)); exact HO288.out) hb)
      have n1_ := Aside0.mk (blk_below (g := gb291) (o := .cells #[.int .i64 t284, .int .i64 t285, .slice Ao20 t286.length co20] 36 (0, 0)) (by (with_reducible repeat (first | refine blk_drewN ?_ _ | refine blk_drew ?_ | refine blk_alloc ?_ _)); exact BK291.out) hb)
      have n2_ := Aside0.mk (below_step (by repeat (first | (with_reducible first | exact HB.out | apply below_alloc | apply pw_below_drewN | apply below_drew1 | refine below_set ?_ GE291.out) | exact HB.out)) hb)
      clear HO288
      clear BK291
      clear HB
      have HO288 := n0_
      have BK291 := n1_
      have HB := n2_
      clear n0_ n1_ n2_
      (try clear hb)
      (try clear hb2)
      (try clear hk)
      (try clear hi)
      refine hK.out _ _ ⟨(blk_cell BK291.out 0).trans rfl, (blk_cell BK291.out 1).trans rfl, (blk_cell BK291.out 2).trans rfl⟩ (fun hHeld => ?_)
      clear hK K
      refine norm_ (a' := ?_) ?_ ?_
      rotate_left
      ·show Act.put _ (some 29) _ = _
       simp only [Act.put, ls1, ls2, ls3, i64_w, i32_w]
       rfl
      refine one_ (i := 7) (N := some 33) (bz 21 255) rfl rfl (one_of HT_.out (by kernel_rfl)) (by decide) (fun K hK => ?_)
      refine goes_ Try.func26 (by kernel_rfl) rfl #[.agg #[.int .i64 t284, .int .i64 t285, .slice Ao20 t286.length co20], .int .i64 t290, .int .i64 t289] (by rfl) rfl rfl (by (try simp only [List.map_toArray, List.map_cons, List.map_nil]); first | done | rfl | (simp only [List.length_drop, List.length_take]; rfl)) ?_
      with_reducible refine (impl_Apart.calls k t284 t285 _ _ t286 t290 t289 t295 _ ?side1 ?side2 A26.out).mono ?_
      (case side1 => repeat (first | exact (Kd.Q_reads' HO288.out).2.2 | (with_reducible refine Kd.C_alloc ?_ _) | (with_reducible refine Kd.C_drewN ?_ _) | (with_reducible refine Kd.C_drew ?_)))
      (case side2 => exact (Kd.Q_reads' HO288.out).2.1)
      rintro e w38 ⟨rfl, hb⟩
      refine ⟨_, rfl, ?_⟩
      have n0_ := Aside0.mk (Kd.Q_below (by (with_reducible repeat (first | apply Kd.Q_alloc | apply Kd.Q_drewN | apply Kd.Q_drew)); exact HO288.out) hb)
      have n1_ := Aside0.mk (blk_below (g := gb291) (o := .cells #[.int .i64 t284, .int .i64 t285, .slice Ao20 t286.length co20] 36 (0, 0)) (by (with_reducible repeat (first | refine blk_drewN ?_ _ | refine blk_drew ?_ | refine blk_alloc ?_ _)); exact BK291.out) hb)
      have n2_ := Aside0.mk (below_step (by repeat (first | (with_reducible first | exact HB.out | apply below_alloc | apply pw_below_drewN | apply below_drew1 | refine below_set ?_ GE291.out) | exact HB.out)) hb)
      clear HO288
      clear BK291
      clear HB
      have HO288 := n0_
      have BK291 := n1_
      have HB := n2_
      clear n0_ n1_ n2_
      (try clear hb)
      (try clear hb2)
      (try clear hk)
      (try clear hi)
      refine hK.out _ _ ⟨(blk_cell BK291.out 0).trans rfl, (blk_cell BK291.out 1).trans rfl, (blk_cell BK291.out 2).trans rfl⟩ (fun hHeld => ?_)
      clear hK K
      refine norm_ (a' := ?_) ?_ ?_
      rotate_left
      ·show Act.put _ (some 33) _ = _
       simp only [Act.put, ls1, ls2, ls3, i64_w, i32_w]
       rfl
      refine pure_ (i := 8) (N := some 34) (v := ?_) (a' := ?_) (bz 21 511) rfl rfl (any_of HT_.out (by kernel_rfl)) (fun _ _ _ h => h) (Or.inl ⟨by rfl, ?_⟩) ?_ ?_; rotate_left; (intro w'; go_simp; with_reducible rfl); rotate_left; (simp only [Act.put, ls1, ls2, ls3, i64_w, i32_w]; rfl)
      refine pure_ (i := 9) (N := some 35) (v := ?_) (a' := ?_) (bz 21 1023) rfl rfl (any_of HT_.out (by kernel_rfl)) (fun _ _ _ h => h) (Or.inl ⟨by rfl, ?_⟩) ?_ ?_; rotate_left; (intro w'; go_simp; with_reducible rfl); rotate_left; (simp only [Act.put, ls1, ls2, ls3, i64_w, i32_w]; rfl)
      refine pure_ (i := 11) (N := some 37) (v := ?_) (a' := ?_) (bz 21 3071) rfl rfl (any_of HT_.out (by kernel_rfl)) (fun _ _ _ h => h) (Or.inl ⟨by rfl, ?_⟩) ?_ ?_; rotate_left; (intro w'; go_simp; with_reducible rfl); rotate_left; (simp only [Act.put, ls1, ls2, ls3, i64_w, i32_w]; rfl)
      refine take_ (i := 10) (N := some 36) (v := ?_) (a' := ?_) (bz 21 4095) rfl rfl (take_ofW HT_.out HW_.out (by kernel_rfl)) (fun _ _ _ h => h) (Or.inl ⟨by rfl, ?_⟩) hHeld ?_ ?_; rotate_left; (rintro w' ⟨s0, s1, s2⟩; go_simp; with_reducible rfl); rotate_left; (simp only [Act.put, ls1, ls2, ls3, i64_w, i32_w]; rfl)
      refine one_ (i := 12) (N := some 38) (bz 21 8191) rfl rfl (one_of HT_.out (by kernel_rfl)) (by decide) (fun K hK => ?_)
      refine goes_ Try.func72 (by kernel_rfl) rfl #[.agg #[.int .i64 t284, .int .i64 t285, .slice Ao20 t286.length co20], .int .i64 t289] (by rfl) rfl rfl (by (try simp only [List.map_toArray, List.map_cons, List.map_nil]); first | done | rfl | (simp only [List.length_drop, List.length_take]; rfl)) ?_
      with_reducible refine (impl_IsCell.calls k t284 t285 _ _ t286 t289 false _ ?side1 ?side2 A28.out).mono ?_
      (case side1 => repeat (first | exact (Kd.Q_reads' HO288.out).2.2 | (with_reducible refine Kd.C_alloc ?_ _) | (with_reducible refine Kd.C_drewN ?_ _) | (with_reducible refine Kd.C_drew ?_)))
      (case side2 => exact (Kd.Q_reads' HO288.out).2.1)
      rintro e w39 ⟨rfl, hb⟩
      refine ⟨_, rfl, ?_⟩
      have n0_ := Aside0.mk (Kd.Q_below (by (with_reducible repeat (first | apply Kd.Q_alloc | apply Kd.Q_drewN | apply Kd.Q_drew)); exact HO288.out) hb)
      have n1_ := Aside0.mk (blk_below (g := gb291) (o := .cells #[.int .i64 t284, .int .i64 t285, .slice Ao20 t286.length co20] 36 (0, 0)) (by (with_reducible repeat (first | refine blk_drewN ?_ _ | refine blk_drew ?_ | refine blk_alloc ?_ _)); exact BK291.out) hb)
      have n2_ := Aside0.mk (below_step (by repeat (first | (with_reducible first | exact HB.out | apply below_alloc | apply pw_below_drewN | apply below_drew1 | refine below_set ?_ GE291.out) | exact HB.out)) hb)
      clear HO288
      clear BK291
      clear HB
      have HO288 := n0_
      have BK291 := n1_
      have HB := n2_
      clear n0_ n1_ n2_
      (try clear hb)
      (try clear hb2)
      (try clear hk)
      (try clear hi)
      refine hK.out _ _ ⟨(blk_cell BK291.out 0).trans rfl, (blk_cell BK291.out 1).trans rfl, (blk_cell BK291.out 2).trans rfl⟩ (fun hHeld => ?_)
      clear hK K
      refine norm_ (a' := ?_) ?_ ?_
      rotate_left
      ·show Act.put _ (some 38) _ = _
       simp only [Act.put, ls1, ls2, ls3, i64_w, i32_w]
       rfl
      refine pure_ (i := 13) (N := some 39) (v := ?_) (a' := ?_) (bz 21 16383) rfl rfl (any_of HT_.out (by kernel_rfl)) (fun _ _ _ h => h) (Or.inl ⟨by rfl, ?_⟩) ?_ ?_; rotate_left; (intro w'; go_simp; with_reducible rfl); rotate_left; (simp only [Act.put, ls1, ls2, ls3, i64_w, i32_w]; rfl)
      refine pure_ (i := 14) (N := some 40) (v := undef) (a' := ?_) (bz 21 32767) rfl rfl (any_of HT_.out (by kernel_rfl)) (fun _ _ _ h => h) (Or.inr ⟨by rfl, rfl⟩) ?_ ?_
      rotate_left
      ·simp only [Act.put, ls1, ls2, ls3, i64_w, i32_w]
       rfl
      refine pure_ (i := 15) (N := some 41) (v := undef) (a' := ?_) (bz 21 65535) rfl rfl (any_of HT_.out (by kernel_rfl)) (fun _ _ _ h => h) (Or.inr ⟨by rfl, rfl⟩) ?_ ?_
      rotate_left
      ·simp only [Act.put, ls1, ls2, ls3, i64_w, i32_w]
       rfl
      refine pure_ (i := 16) (N := some 42) (v := undef) (a' := ?_) (bz 21 131071) rfl rfl (any_of HT_.out (by kernel_rfl)) (fun _ _ _ h => h) (Or.inr ⟨by rfl, rfl⟩) ?_ ?_
      rotate_left
      ·simp only [Act.put, ls1, ls2, ls3, i64_w, i32_w]
       rfl
      refine pure_ (i := 17) (N := some 43) (v := undef) (a' := ?_) (bz 21 262143) rfl rfl (any_of HT_.out (by kernel_rfl)) (fun _ _ _ h => h) (Or.inr ⟨by rfl, rfl⟩) ?_ ?_
      rotate_left
      ·simp only [Act.put, ls1, ls2, ls3, i64_w, i32_w]
       rfl
      refine pure_ (i := 18) (N := some 44) (v := undef) (a' := ?_) (bz 21 524287) rfl rfl (any_of HT_.out (by kernel_rfl)) (fun _ _ _ h => h) (Or.inr ⟨by rfl, rfl⟩) ?_ ?_
      rotate_left
      ·simp only [Act.put, ls1, ls2, ls3, i64_w, i32_w]
       rfl
      refine pure_ (i := 19) (N := some 45) (v := ?_) (a' := ?_) (bz 21 1048575) rfl rfl (any_of HT_.out (by kernel_rfl)) (fun _ _ _ h => h) (Or.inl ⟨by rfl, ?_⟩) ?_ ?_; rotate_left; (intro w'; go_simp; with_reducible rfl); rotate_left; (simp only [Act.put, ls1, ls2, ls3, i64_w, i32_w]; rfl)
      refine pure_ (i := 20) (N := some 46) (v := ?_) (a' := ?_) (bz 21 2097151) rfl rfl (any_of HT_.out (by kernel_rfl)) (fun _ _ _ h => h) (Or.inl ⟨by rfl, ?_⟩) ?_ ?_; rotate_left; (intro w'; go_simp; with_reducible rfl); rotate_left; (simp only [Act.put, ls1, ls2, ls3, i64_w, i32_w]; rfl)
      refine done_ (done_of HT_.out (by kernel_rfl)) ?_
      try go_wp2
      go_meet
      case rel => exact ⟨_, (false), (by first | rfl | (simp; done) | (simp [*]; done)), H', ⟨by first | omega | exact Nat.le_refl _⟩, ⟨by (with_reducible repeat (first | apply Kd.Q_alloc | apply Kd.Q_drewN | apply Kd.Q_drew)); exact HO288.out⟩, ⟨by (with_reducible repeat (first | refine blk_drewN ?_ _ | refine blk_drew ?_ | refine blk_alloc ?_ _)); exact BK291.out⟩, ⟨by repeat (first | (with_reducible first | exact HB.out | apply below_alloc | apply pw_below_drewN | apply below_drew1 | refine below_set ?_ GE291.out) | exact HB.out)⟩⟩
    ·rw [if_neg c27] at H
     have c27b0 : (t294 == t295) = false := beq_eq_false_iff_ne.mpr c27
     have c27b1 : (t294 != t295) = true := bne_iff_ne.mpr c27
     (first | rw [c27b0] | (simp only [i64_w, i32_w]; rw [c27b0]) | skip)
     have H' := Aside0.mk H
     clear H
     try go_wp2
     have n0_ := Aside0.mk (Kd.Q_drew HO288.out)
     have n1_ := Aside0.mk (blk_drew BK291.out)
     have n2_ := Aside0.mk (below_drew1 HB.out)
     clear HO288
     clear BK291
     clear HB
     have HO288 := n0_
     have BK291 := n1_
     have HB := n2_
     clear n0_ n1_ n2_
     refine start_ (n := 21) (S := fun w' => w'.cell? ⟨gb291, 0, none⟩ = some (.int .i64 t284) ∧ w'.cell? ⟨gb291, 1, none⟩ = some (.int .i64 t285) ∧ w'.cell? ⟨gb291, 2, none⟩ = some (.slice Ao20 t286.length co20)) (ds := []) (bz 21 0) (by kernel_rfl) rfl rfl ⟨(blk_cell BK291.out 0).trans rfl, (blk_cell BK291.out 1).trans rfl, (blk_cell BK291.out 2).trans rfl⟩ (fun hHeld => ?_); refine with_tabW laws_FnLand.tab6 laws_FnLand.bits6 (fun HT_ HW_ => ?_)
     generalize w24.drew = w40 at HO288 BK291 HB hHeld ⊢
     refine pure_ (i := 1) (N := some 27) (v := ?_) (a' := ?_) (bz 21 2) rfl rfl (any_of HT_.out (by kernel_rfl)) (fun _ _ _ h => h) (Or.inl ⟨by rfl, ?_⟩) ?_ ?_; rotate_left; (intro w'; go_simp; with_reducible rfl); rotate_left; (simp only [Act.put, ls1, ls2, ls3, i64_w, i32_w]; rfl)
     refine pure_ (i := 2) (N := some 28) (v := ?_) (a' := ?_) (bz 21 6) rfl rfl (any_of HT_.out (by kernel_rfl)) (fun _ _ _ h => h) (Or.inl ⟨by rfl, ?_⟩) ?_ ?_; rotate_left; (intro w'; go_simp; with_reducible rfl); rotate_left; (simp only [Act.put, ls1, ls2, ls3, i64_w, i32_w]; rfl)
     refine pure_ (i := 5) (N := some 31) (v := ?_) (a' := ?_) (bz 21 38) rfl rfl (any_of HT_.out (by kernel_rfl)) (fun _ _ _ h => h) (Or.inl ⟨by rfl, ?_⟩) ?_ ?_; rotate_left; (intro w'; go_simp; with_reducible rfl); rotate_left; (simp only [Act.put, ls1, ls2, ls3, i64_w, i32_w]; rfl)
     refine pure_ (i := 6) (N := some 32) (v := ?_) (a' := ?_) (bz 21 102) rfl rfl (any_of HT_.out (by kernel_rfl)) (fun _ _ _ h => h) (Or.inl ⟨by rfl, ?_⟩) ?_ ?_; rotate_left; (intro w'; go_simp; with_reducible rfl); rotate_left; (simp only [Act.put, ls1, ls2, ls3, i64_w, i32_w]; rfl)
     refine take_ (i := 0) (N := some 26) (v := ?_) (a' := ?_) (bz 21 103) rfl rfl (take_ofW HT_.out HW_.out (by kernel_rfl)) (fun _ _ _ h => h) (Or.inl ⟨by rfl, ?_⟩) hHeld ?_ ?_; rotate_left; (rintro w' ⟨s0, s1, s2⟩; go_simp; with_reducible rfl); rotate_left; (simp only [Act.put, ls1, ls2, ls3, i64_w, i32_w]; rfl)
     refine take_ (i := 4) (N := some 30) (v := ?_) (a' := ?_) (bz 21 119) rfl rfl (take_ofW HT_.out HW_.out (by kernel_rfl)) (fun _ _ _ h => h) (Or.inl ⟨by rfl, ?_⟩) hHeld ?_ ?_; rotate_left; (rintro w' ⟨s0, s1, s2⟩; go_simp; with_reducible rfl); rotate_left; (simp only [Act.put, ls1, ls2, ls3, i64_w, i32_w]; rfl)
     refine one_ (i := 3) (N := some 29) (bz 21 127) rfl rfl (one_of HT_.out (by kernel_rfl)) (by decide) (fun K hK => ?_)
     refine goes_ Try.func26 (by kernel_rfl) rfl #[.agg #[.int .i64 t284, .int .i64 t285, .slice Ao20 t286.length co20], .int .i64 t289, .int .i64 t290] (by rfl) rfl rfl (by (try simp only [List.map_toArray, List.map_cons, List.map_nil]); first | done | rfl | (simp only [List.length_drop, List.length_take]; rfl)) ?_
     with_reducible refine (impl_Apart.calls k t284 t285 _ _ t286 t289 t290 t294 _ ?side1 ?side2 A25.out).mono ?_
     (case side1 => repeat (first | exact (Kd.Q_reads' HO288.out).2.2 | (with_reducible refine Kd.C_alloc ?_ _) | (with_reducible refine Kd.C_drewN ?_ _) | (with_reducible refine Kd.C_drew ?_)))
     (case side2 => exact (Kd.Q_reads' HO288.out).2.1)
     rintro e w41 ⟨rfl, hb⟩
     refine ⟨_, rfl, ?_⟩
     have n0_ := Aside0.mk (Kd.Q_below (by (with_reducible repeat (first | apply Kd.Q_alloc | apply Kd.Q_drewN | apply Kd.Q_drew)); exact HO288.out) hb)
     have n1_ := Aside0.mk (blk_below (g := gb291) (o := .cells #[.int .i64 t284, .int .i64 t285, .slice Ao20 t286.length co20] 36 (0, 0)) (by (with_reducible repeat (first | refine blk_drewN ?_ _ | refine blk_drew ?_ | refine blk_alloc ?_ _)); exact BK291.out) hb)
     have n2_ := Aside0.mk (below_step (by repeat (first | (with_reducible first | exact HB.out | apply below_alloc | apply pw_below_drewN | apply below_drew1 | refine below_set ?_ GE291.out) | exact HB.out)) hb)
     clear HO288
     clear BK291
     clear HB
     have HO288 := n0_
     have BK291 := n1_
     have HB := n2_
     clear n0_ n1_ n2_
     (try clear hb)
     (try clear hb2)
     (try clear hk)
     (try clear hi)
     refine hK.out _ _ ⟨(blk_cell BK291.out 0).trans rfl, (blk_cell BK291.out 1).trans rfl, (blk_cell BK291.out 2).trans rfl⟩ (fun hHeld => ?_)
     clear hK K
     refine norm_ (a' := ?_) ?_ ?_
     rotate_left
     ·show Act.put _ (some 29) _ = _
      simp only [Act.put, ls1, ls2, ls3, i64_w, i32_w]
      rfl
     refine one_ (i := 7) (N := some 33) (bz 21 255) rfl rfl (one_of HT_.out (by kernel_rfl)) (by decide) (fun K hK => ?_)
     refine goes_ Try.func26 (by kernel_rfl) rfl #[.agg #[.int .i64 t284, .int .i64 t285, .slice Ao20 t286.length co20], .int .i64 t290, .int .i64 t289] (by rfl) rfl rfl (by (try simp only [List.map_toArray, List.map_cons, List.map_nil]); first | done | rfl | (simp only [List.length_drop, List.length_take]; rfl)) ?_
     with_reducible refine (impl_Apart.calls k t284 t285 _ _ t286 t290 t289 t295 _ ?side1 ?side2 A26.out).mono ?_
     (case side1 => repeat (first | exact (Kd.Q_reads' HO288.out).2.2 | (with_reducible refine Kd.C_alloc ?_ _) | (with_reducible refine Kd.C_drewN ?_ _) | (with_reducible refine Kd.C_drew ?_)))
     (case side2 => exact (Kd.Q_reads' HO288.out).2.1)
     rintro e w42 ⟨rfl, hb⟩
     refine ⟨_, rfl, ?_⟩
     have n0_ := Aside0.mk (Kd.Q_below (by (with_reducible repeat (first | apply Kd.Q_alloc | apply Kd.Q_drewN | apply Kd.Q_drew)); exact HO288.out) hb)
     have n1_ := Aside0.mk (blk_below (g := gb291) (o := .cells #[.int .i64 t284, .int .i64 t285, .slice Ao20 t286.length co20] 36 (0, 0)) (by (with_reducible repeat (first | refine blk_drewN ?_ _ | refine blk_drew ?_ | refine blk_alloc ?_ _)); exact BK291.out) hb)
     have n2_ := Aside0.mk (below_step (by repeat (first | (with_reducible first | exact HB.out | apply below_alloc | apply pw_below_drewN | apply below_drew1 | refine below_set ?_ GE291.out) | exact HB.out)) hb)
     clear HO288
     clear BK291
     clear HB
     have HO288 := n0_
     have BK291 := n1_
     have HB := n2_
     clear n0_ n1_ n2_
     (try clear hb)
     (try clear hb2)
     (try clear hk)
     (try clear hi)
     refine hK.out _ _ ⟨(blk_cell BK291.out 0).trans rfl, (blk_cell BK291.out 1).trans rfl, (blk_cell BK291.out 2).trans rfl⟩ (fun hHeld => ?_)
     clear hK K
     refine norm_ (a' := ?_) ?_ ?_
     rotate_left
     ·show Act.put _ (some 33) _ = _
      simp only [Act.put, ls1, ls2, ls3, i64_w, i32_w]
      rfl
     refine pure_ (i := 8) (N := some 34) (v := ?_) (a' := ?_) (bz 21 511) rfl rfl (any_of HT_.out (by kernel_rfl)) (fun _ _ _ h => h) (Or.inl ⟨by rfl, ?_⟩) ?_ ?_; rotate_left; (intro w'; go_simp; with_reducible rfl); rotate_left; (simp only [Act.put, ls1, ls2, ls3, i64_w, i32_w]; rfl)
     refine pure_ (i := 9) (N := some 35) (v := ?_) (a' := ?_) (bz 21 1023) rfl rfl (any_of HT_.out (by kernel_rfl)) (fun _ _ _ h => h) (Or.inl ⟨by rfl, ?_⟩) ?_ ?_; rotate_left; (intro w'; go_simp; with_reducible rfl); rotate_left; (simp only [Act.put, ls1, ls2, ls3, i64_w, i32_w]; rfl)
     refine pure_ (i := 10) (N := some 36) (v := undef) (a' := ?_) (bz 21 2047) rfl rfl (any_of HT_.out (by kernel_rfl)) (fun _ _ _ h => h) (Or.inr ⟨by rfl, rfl⟩) ?_ ?_
     rotate_left
     ·simp only [Act.put, ls1, ls2, ls3, i64_w, i32_w]
      rfl
     refine pure_ (i := 11) (N := some 37) (v := undef) (a' := ?_) (bz 21 4095) rfl rfl (any_of HT_.out (by kernel_rfl)) (fun _ _ _ h => h) (Or.inr ⟨by rfl, rfl⟩) ?_ ?_
     rotate_left
     ·simp only [Act.put, ls1, ls2, ls3, i64_w, i32_w]
      rfl
     refine pure_ (i := 12) (N := some 38) (v := undef) (a' := ?_) (bz 21 8191) rfl rfl (any_of HT_.out (by kernel_rfl)) (fun _ _ _ h => h) (Or.inr ⟨by rfl, rfl⟩) ?_ ?_
     rotate_left
     ·simp only [Act.put, ls1, ls2, ls3, i64_w, i32_w]
      rfl
     refine pure_ (i := 13) (N := some 39) (v := undef) (a' := ?_) (bz 21 16383) rfl rfl (any_of HT_.out (by kernel_rfl)) (fun _ _ _ h => h) (Or.inr ⟨by rfl, rfl⟩) ?_ ?_
     rotate_left
     ·simp only [Act.put, ls1, ls2, ls3, i64_w, i32_w]
      rfl
     refine pure_ (i := 14) (N := some 40) (v := undef) (a' := ?_) (bz 21 32767) rfl rfl (any_of HT_.out (by kernel_rfl)) (fun _ _ _ h => h) (Or.inr ⟨by rfl, rfl⟩) ?_ ?_
     rotate_left
     ·simp only [Act.put, ls1, ls2, ls3, i64_w, i32_w]
      rfl
     refine pure_ (i := 15) (N := some 41) (v := undef) (a' := ?_) (bz 21 65535) rfl rfl (any_of HT_.out (by kernel_rfl)) (fun _ _ _ h => h) (Or.inr ⟨by rfl, rfl⟩) ?_ ?_
     rotate_left
     ·simp only [Act.put, ls1, ls2, ls3, i64_w, i32_w]
      rfl
     refine pure_ (i := 16) (N := some 42) (v := undef) (a' := ?_) (bz 21 131071) rfl rfl (any_of HT_.out (by kernel_rfl)) (fun _ _ _ h => h) (Or.inr ⟨by rfl, rfl⟩) ?_ ?_
     rotate_left
     ·simp only [Act.put, ls1, ls2, ls3, i64_w, i32_w]
      rfl
     refine pure_ (i := 17) (N := some 43) (v := undef) (a' := ?_) (bz 21 262143) rfl rfl (any_of HT_.out (by kernel_rfl)) (fun _ _ _ h => h) (Or.inr ⟨by rfl, rfl⟩) ?_ ?_
     rotate_left
     ·simp only [Act.put, ls1, ls2, ls3, i64_w, i32_w]
      rfl
     refine pure_ (i := 18) (N := some 44) (v := undef) (a' := ?_) (bz 21 524287) rfl rfl (any_of HT_.out (by kernel_rfl)) (fun _ _ _ h => h) (Or.inr ⟨by rfl, rfl⟩) ?_ ?_
     rotate_left
     ·simp only [Act.put, ls1, ls2, ls3, i64_w, i32_w]
      rfl
     refine pure_ (i := 19) (N := some 45) (v := undef) (a' := ?_) (bz 21 1048575) rfl rfl (any_of HT_.out (by kernel_rfl)) (fun _ _ _ h => h) (Or.inr ⟨by rfl, rfl⟩) ?_ ?_
     rotate_left
     ·simp only [Act.put, ls1, ls2, ls3, i64_w, i32_w]
      rfl
     refine pure_ (i := 20) (N := some 46) (v := ?_) (a' := ?_) (bz 21 2097151) rfl rfl (any_of HT_.out (by kernel_rfl)) (fun _ _ _ h => h) (Or.inl ⟨by rfl, ?_⟩) ?_ ?_; rotate_left; (intro w'; go_simp; with_reducible rfl); rotate_left; (simp only [Act.put, ls1, ls2, ls3, i64_w, i32_w]; rfl)
     refine done_ (done_of HT_.out (by kernel_rfl)) ?_
     try go_wp2
     go_meet
     case rel => exact ⟨_, (true), (by first | rfl | (simp; done) | (simp [*]; done)), H', ⟨by first | omega | exact Nat.le_refl _⟩, ⟨by (with_reducible repeat (first | apply Kd.Q_alloc | apply Kd.Q_drewN | apply Kd.Q_drew)); exact HO288.out⟩, ⟨by (with_reducible repeat (first | refine blk_drewN ?_ _ | refine blk_drew ?_ | refine blk_alloc ?_ _)); exact BK291.out⟩, ⟨by repeat (first | (with_reducible first | exact HB.out | apply below_alloc | apply pw_below_drewN | apply below_drew1 | refine below_set ?_ GE291.out) | exact HB.out)⟩⟩
   case rest =>
    clear HC16
    try clear c2
    try clear p2
    try clear c7
    try clear c26
    try clear c27
    try clear c27b0
    try clear c27b1
    try clear c29
    obtain ⟨kq, x46_15, rfl, HA, HJ15, HO_292002, BK291, HB⟩ := hcut
    cases kq with
    | zero => exact absurd HA.out (by simp [laws_FnLand.j0])
    | succ kj15 =>
     have H := HA.out
     clear HA
     simp only [laws_FnLand.j0] at H
     by_cases c43 : x46_15 = true
     ·subst c43
      have H1 : (some false) = some r := by rw [if_pos rfl] at H; exact H
      clear H
      have H := H1
      clear H1
      obtain rfl := Option.some.inj H
      go_wp2
      go_ret
      exact ⟨by first | rfl | (simp [errW_none, errW_some] <;> rfl) | (simp [*, errW_none, errW_some] <;> rfl), by repeat (first | (with_reducible first | exact HB.out | apply below_alloc | apply pw_below_drewN | apply below_drew1 | refine below_set ?_ GE291.out) | exact HB.out)⟩
     ·replace c43 := Bool.eq_false_iff.mpr c43
      subst c43
      have H1 : ((spec_DrawNear.f kj15 l0).bind fun bt298 => ((impl_Near.f kj15 bt298.1 bt298.2.1 bt298.2.2.1 bt298.2.2.2).bind fun t305 => ((laws_ascends.f kj15 t305).bind fun t308 => (if t308 = true then (laws_FnLand.j1 kj15 l0 bt298.2.2.2 t305 (decide ((t305.length : Int) > 4)) bt298.1 bt298.2.1 bt298.2.2.1) else (laws_FnLand.j1 kj15 l0 bt298.2.2.2 t305 true bt298.1 bt298.2.1 bt298.2.2.1))))) = some r := by rw [if_neg (show ¬ (false = true) by decide)] at H; exact H
      clear H
      have H := H1
      clear H1
      replace H := Option.bind_eq_some_iff.mp H
      obtain ⟨⟨t298, t299, t300, t303⟩, A440, H⟩ := H
      replace H : ((impl_Near.f kj15 t298 t299 t300 t303).bind fun t305 => ((laws_ascends.f kj15 t305).bind fun t308 => (if t308 = true then (laws_FnLand.j1 kj15 l0 t303 t305 (decide ((t305.length : Int) > 4)) t298 t299 t300) else (laws_FnLand.j1 kj15 l0 t303 t305 true t298 t299 t300)))) = some r := H
      have A44 := Aside0.mk A440
      clear A440
      replace H := Option.bind_eq_some_iff.mp H
      obtain ⟨t305, A450, H⟩ := H
      replace H : ((laws_ascends.f kj15 t305).bind fun t308 => (if t308 = true then (laws_FnLand.j1 kj15 l0 t303 t305 (decide ((t305.length : Int) > 4)) t298 t299 t300) else (laws_FnLand.j1 kj15 l0 t303 t305 true t298 t299 t300))) = some r := H
      have A45 := Aside0.mk A450
      clear A450
      have HC46 := Aside0.mk H
      clear H
      go_upto_region 10 with (first | ((with_reducible refine gate_callee (f := 74) rfl ?_); refine goesL_ (some 49) rfl rfl Try.func74 (by kernel_rfl) rfl #[.slice A0 l0.length c0] rfl (by (try simp only [List.map_toArray, List.map_cons, List.map_nil]); first | done | rfl | (simp only [List.length_drop, List.length_take]; rfl)) ?_; (with_reducible refine (spec_DrawNear.calls kj15 _ _ l0 t298 t299 t300 t303 _ ?side1 ?side2 A44.out).mono ?_); (case side1 => repeat (first | exact (Kd.C_below HR0.out HB.out) | (with_reducible refine Kd.C_alloc ?_ _) | (with_reducible refine Kd.C_drewN ?_ _) | (with_reducible refine Kd.C_drew ?_))); (case side2 => exact HC0.out); rintro e w47 ⟨v301, rfl, ho0, hb⟩; refine ⟨_, rfl, ?_⟩; have n0_ := Aside0.mk (Kd.Q_elder' (by (with_reducible repeat (first | apply Kd.Q_alloc | apply Kd.Q_drewN | apply Kd.Q_drew)); exact HO_292002.out) (Kd.Q_base ho0) hb); have n1_ := Aside0.mk (Kd.Q_lower (Kd.Q_new' ho0 (Kd.Q_lt (by (with_reducible repeat (first | apply Kd.Q_alloc | apply Kd.Q_drewN | apply Kd.Q_drew)); exact HO_292002.out))) (below_size (by repeat (first | (with_reducible first | exact HB.out | apply below_alloc | apply pw_below_drewN | apply below_drew1 | refine below_set ?_ GE291.out) | exact HB.out)))); have n2_ := Aside0.mk (blk_below (g := gb291) (o := .cells #[.int .i64 t284, .int .i64 t285, .slice Ao20 t286.length co20] 36 (0, 0)) (by (with_reducible repeat (first | refine blk_drewN ?_ _ | refine blk_drew ?_ | refine blk_alloc ?_ _)); exact BK291.out) hb); have n3_ := Aside0.mk (below_step (by repeat (first | (with_reducible first | exact HB.out | apply below_alloc | apply pw_below_drewN | apply below_drew1 | refine below_set ?_ GE291.out) | exact HB.out)) hb); clear HO_292002; clear BK291; clear HB; have HO_292002 := n0_; have HO302 := n1_; have BK291 := n2_; have HB := n3_; clear n0_ n1_ n2_ n3_; (try clear hb); (try clear hb2); (try clear hk); (try clear hi); (try clear ho0)) | ((with_reducible refine gate_dst (N := 6) rfl ?_); (try (refine gate_guard (by rfl) ?_; dsimp only)); refine box_event ?hg (N := 6) ?hd (cs := #[.int .i64 0, .int .i64 0, .slice none 0 0]) (t := 36) ?hr ?_; (case hd => rfl); (case hg => rfl); (case hr => first | (go_simp; done) | (go_simp; rfl)); intro gb304 hg w48 hbox hb; have n0_ := Aside0.mk (Kd.Q_below (by (with_reducible repeat (first | apply Kd.Q_alloc | apply Kd.Q_drewN | apply Kd.Q_drew)); exact HO_292002.out) hb); have n1_ := Aside0.mk (Kd.Q_below (by (with_reducible repeat (first | apply Kd.Q_alloc | apply Kd.Q_drewN | apply Kd.Q_drew)); exact HO302.out) hb); have n2_ := Aside0.mk (blk_below (g := gb291) (o := .cells #[.int .i64 t284, .int .i64 t285, .slice Ao20 t286.length co20] 36 (0, 0)) (by (with_reducible repeat (first | refine blk_drewN ?_ _ | refine blk_drew ?_ | refine blk_alloc ?_ _)); exact BK291.out) hb); have n3_ := Aside0.mk (below_step (by repeat (first | (with_reducible first | exact HB.out | apply below_alloc | apply pw_below_drewN | apply below_drew1 | refine below_set ?_ GE291.out) | exact HB.out)) hb); have n4_ := Aside0.mk (hbox); have n5_ := Aside0.mk ((by rw [hg]; exact (below_size (by repeat (first | (with_reducible first | exact HB.out | apply below_alloc | apply pw_below_drewN | apply below_drew1 | refine below_set ?_ GE291.out) | exact HB.out))) : w.heap.size ≤ gb304)); have n6_ := Aside0.mk ((by rw [hg]; exact (below_size (by repeat (first | (with_reducible first | exact HB.out | apply below_alloc | apply pw_below_drewN | apply below_drew1 | refine below_set ?_ GE291.out) | exact HB.out))) : w.heap.size ≤ gb304)); have n7_ := Aside0.mk ((by rw [hg]; exact Nat.ne_of_lt (blk_lt (g := gb291) (o := .cells #[.int .i64 t284, .int .i64 t285, .slice Ao20 t286.length co20] 36 (0, 0)) (by (with_reducible repeat (first | refine blk_drewN ?_ _ | refine blk_drew ?_ | refine blk_alloc ?_ _)); exact BK291.out)) : gb291 ≠ gb304)); have n8_ := Aside0.mk ((by rw [hg]; exact Nat.ne_of_gt (blk_lt (g := gb291) (o := .cells #[.int .i64 t284, .int .i64 t285, .slice Ao20 t286.length co20] 36 (0, 0)) (by (with_reducible repeat (first | refine blk_drewN ?_ _ | refine blk_drew ?_ | refine blk_alloc ?_ _)); exact BK291.out)) : gb304 ≠ gb291)); clear HO_292002; clear HO302; clear BK291; clear HB; have HO_292002 := n0_; have HO302 := n1_; have BK291 := n2_; have HB := n3_; have BK304 := n4_; have GW304 := n5_; have GE304 := n6_; have NB291_304 := n7_; have NB304_291 := n8_; clear n0_ n1_ n2_ n3_ n4_ n5_ n6_ n7_ n8_; clear hb hbox hg; have hnb49 := NB304_291.out; have hnc49 := NB291_304.out; have hcz50_0 : w48.cell? ⟨gb304, 0, none⟩ = some (.int .i64 0) := (blk_cell BK304.out 0).trans rfl; have hcz50_1 : w48.cell? ⟨gb304, 1, none⟩ = some (.int .i64 0) := (blk_cell BK304.out 1).trans rfl; have hcz50_2 : w48.cell? ⟨gb304, 2, none⟩ = some (.slice none 0 0) := (blk_cell BK304.out 2).trans rfl; have hfz50_0 := blk_frozen BK304.out 0; have hfz50_1 := blk_frozen BK304.out 1; have hfz50_2 := blk_frozen BK304.out 2; obtain ⟨Ao51, co51, eo51, _⟩ := Kd.Q_slice HO302.out; subst eo51) | ((with_reducible refine gate_callee (f := 69) rfl ?_); refine goesL_ (some 54) rfl rfl Try.func69 (by kernel_rfl) rfl #[.agg #[.int .i64 t298, .int .i64 t299, .slice Ao51 t300.length co51], .int .i64 t303] rfl (by (try simp only [List.map_toArray, List.map_cons, List.map_nil]); first | done | rfl | (simp only [List.length_drop, List.length_take]; rfl)) ?_; (with_reducible refine (impl_Near.calls kj15 t298 t299 _ _ t300 t303 t305 _ ?side1 ?side2 A45.out).mono ?_); (case side1 => refine (Kd.Q_reads' (e := 3) (base := w.heap.size) (ok := fun k_ => (True ∧ some k_ ≠ (.slice Ao20 t286.length co20 : Value).ownBlock)) (n := t300.length) (c := co51) ?_).2.2; exact (by (with_reducible repeat (first | apply Kd.Q_alloc | apply Kd.Q_drewN | apply Kd.Q_drew)); exact (Kd.Q_mono (Kd.Q_far (p := ⟨gb304, 2, none⟩) (Kd.Q_far (p := ⟨gb304, 1, none⟩) (Kd.Q_far (p := ⟨gb304, 0, none⟩) (Kd.Q_types HO302.out BK304.out (by decide)) (fun _ hk => hk.2) (.int .i64 t298)) (fun _ hk => hk.2) (.int .i64 t299)) (fun _ hk => hk.2) (.slice Ao51 t300.length co51)) (fun _ h_ => h_.1)))); (case side2 => exact (Kd.Q_reads' HO302.out).2.1); rintro e w52 ⟨v306, rfl, ho0, hb⟩; refine ⟨_, rfl, ?_⟩; have n0_ := Aside0.mk (Kd.Q_elder' (by (with_reducible repeat (first | apply Kd.Q_alloc | apply Kd.Q_drewN | apply Kd.Q_drew)); exact (Kd.Q_mono (Kd.Q_far (p := ⟨gb304, 2, none⟩) (Kd.Q_far (p := ⟨gb304, 1, none⟩) (Kd.Q_far (p := ⟨gb304, 0, none⟩) (Kd.Q_types HO_292002.out BK304.out (by decide)) (fun _ hk => hk.2) (.int .i64 t298)) (fun _ hk => hk.2) (.int .i64 t299)) (fun _ hk => hk.2) (.slice Ao51 t300.length co51)) (fun _ h_ => h_.1))) (Kd.R_base ho0) hb); have n1_ := Aside0.mk (Kd.Q_elder' (by (with_reducible repeat (first | apply Kd.Q_alloc | apply Kd.Q_drewN | apply Kd.Q_drew)); exact (Kd.Q_mono (Kd.Q_far (p := ⟨gb304, 2, none⟩) (Kd.Q_far (p := ⟨gb304, 1, none⟩) (Kd.Q_far (p := ⟨gb304, 0, none⟩) (Kd.Q_types HO302.out BK304.out (by decide)) (fun _ hk => hk.2) (.int .i64 t298)) (fun _ hk => hk.2) (.int .i64 t299)) (fun _ hk => hk.2) (.slice Ao51 t300.length co51)) (fun _ h_ => h_.1))) (Kd.R_base ho0) hb); have n2_ := Aside0.mk (Kd.R_lower (Kd.R_new' (Kd.R_new' ho0 (Kd.Q_lt (by (with_reducible repeat (first | apply Kd.Q_alloc | apply Kd.Q_drewN | apply Kd.Q_drew)); exact (Kd.Q_mono (Kd.Q_far (p := ⟨gb304, 2, none⟩) (Kd.Q_far (p := ⟨gb304, 1, none⟩) (Kd.Q_far (p := ⟨gb304, 0, none⟩) (Kd.Q_types HO_292002.out BK304.out (by decide)) (fun _ hk => hk.2) (.int .i64 t298)) (fun _ hk => hk.2) (.int .i64 t299)) (fun _ hk => hk.2) (.slice Ao51 t300.length co51)) (fun _ h_ => h_.1))))) (Kd.Q_lt (by (with_reducible repeat (first | apply Kd.Q_alloc | apply Kd.Q_drewN | apply Kd.Q_drew)); exact (Kd.Q_mono (Kd.Q_far (p := ⟨gb304, 2, none⟩) (Kd.Q_far (p := ⟨gb304, 1, none⟩) (Kd.Q_far (p := ⟨gb304, 0, none⟩) (Kd.Q_types HO302.out BK304.out (by decide)) (fun _ hk => hk.2) (.int .i64 t298)) (fun _ hk => hk.2) (.int .i64 t299)) (fun _ hk => hk.2) (.slice Ao51 t300.length co51)) (fun _ h_ => h_.1))))) (below_size (by repeat (first | (with_reducible first | exact HB.out | apply below_alloc | apply pw_below_drewN | apply below_drew1 | refine below_set ?_ GE291.out | refine below_set ?_ GE304.out) | exact HB.out)))); have n3_ := Aside0.mk (blk_below (g := gb291) (o := .cells #[.int .i64 t284, .int .i64 t285, .slice Ao20 t286.length co20] 36 (0, 0)) (by (with_reducible repeat (first | refine blk_drewN ?_ _ | refine blk_drew ?_ | refine blk_alloc ?_ _)); refine blk_far ?_ NB291_304.out _; (with_reducible repeat (first | refine blk_drewN ?_ _ | refine blk_drew ?_ | refine blk_alloc ?_ _)); refine blk_far ?_ NB291_304.out _; (with_reducible repeat (first | refine blk_drewN ?_ _ | refine blk_drew ?_ | refine blk_alloc ?_ _)); refine blk_far ?_ NB291_304.out _; (with_reducible repeat (first | refine blk_drewN ?_ _ | refine blk_drew ?_ | refine blk_alloc ?_ _)); exact BK291.out) hb); have n4_ := Aside0.mk (blk_below (g := gb304) (o := .cells #[.int .i64 t298, .int .i64 t299, .slice Ao51 t300.length co51] 36 (0, 0)) (by (with_reducible repeat (first | refine blk_drewN ?_ _ | refine blk_drew ?_ | refine blk_alloc ?_ _)); refine blk_put (cs := #[.int .i64 t298, .int .i64 t299, .slice none 0 0]) ?_ 2 _ rfl; (with_reducible repeat (first | refine blk_drewN ?_ _ | refine blk_drew ?_ | refine blk_alloc ?_ _)); refine blk_put (cs := #[.int .i64 t298, .int .i64 0, .slice none 0 0]) ?_ 1 _ rfl; (with_reducible repeat (first | refine blk_drewN ?_ _ | refine blk_drew ?_ | refine blk_alloc ?_ _)); refine blk_put (cs := #[.int .i64 0, .int .i64 0, .slice none 0 0]) ?_ 0 _ rfl; (with_reducible repeat (first | refine blk_drewN ?_ _ | refine blk_drew ?_ | refine blk_alloc ?_ _)); exact BK304.out) hb); have n5_ := Aside0.mk (below_step (by repeat (first | (with_reducible first | exact HB.out | apply below_alloc | apply pw_below_drewN | apply below_drew1 | refine below_set ?_ GE291.out | refine below_set ?_ GE304.out) | exact HB.out)) hb); clear HO_292002; clear HO302; clear BK291; clear BK304; clear HB; have HO_292002 := n0_; have HO302 := n1_; have HO307 := n2_; have BK291 := n3_; have BK304 := n4_; have HB := n5_; clear n0_ n1_ n2_ n3_ n4_ n5_; (try clear hb); (try clear hb2); (try clear hk); (try clear hi); (try clear ho0)))
      (try simp only [Act.put, List.setIfInBounds_toArray, List.set_cons_zero, List.set_cons_succ])
      go_cut [62] (fun v62 wc => ∃ (kq : Nat) (x62_45 : Bool), v62 = .bool x62_45 ∧ Aside0 (laws_FnLand.j1 kq l0 t303 t305 x62_45 t298 t299 t300 = some r) ∧ Aside0 (kq ≤ kj15) ∧ Aside0 (Kd.R (Kd.int .i64) 3 wc w.heap.size (fun k_ => some k_ ≠ ((.slice Ao20 t286.length co20) : Value).ownBlock ∧ some k_ ≠ ((.slice Ao51 t300.length co51) : Value).ownBlock) v306 t305) ∧ Aside0 (Kd.Q (Kd.int .i64) 3 wc w.heap.size (fun k_ => some k_ ≠ (v306 : Value).ownBlock ∧ some k_ ≠ ((.slice Ao51 t300.length co51) : Value).ownBlock) (.slice Ao20 t286.length co20) t286) ∧ Aside0 (Kd.Q (Kd.int .i64) 3 wc w.heap.size (fun k_ => some k_ ≠ (v306 : Value).ownBlock ∧ some k_ ≠ ((.slice Ao20 t286.length co20) : Value).ownBlock) (.slice Ao51 t300.length co51) t300) ∧ Aside0 (wc.heap[gb291]? = some (.cells #[.int .i64 t284, .int .i64 t285, (.slice Ao20 t286.length co20)] 36 (0, 0))) ∧ Aside0 (wc.heap[gb304]? = some (.cells #[.int .i64 t298, .int .i64 t299, (.slice Ao51 t300.length co51)] 36 (0, 0))) ∧ Aside0 (Below w.heap.size w wc))
      case first =>
       have H := HC46.out
       clear HC46
       replace H := Option.bind_eq_some_iff.mp H
       obtain ⟨t308, A530, H⟩ := H
       replace H : (if t308 = true then (laws_FnLand.j1 kj15 l0 t303 t305 (decide ((t305.length : Int) > 4)) t298 t299 t300) else (laws_FnLand.j1 kj15 l0 t303 t305 true t298 t299 t300)) = some r := H
       have A53 := Aside0.mk A530
       clear A530
       by_cases c54 : t308 = true
       ·subst c54
        have H1 : (laws_FnLand.j1 kj15 l0 t303 t305 (decide ((t305.length : Int) > 4)) t298 t299 t300) = some r := by rw [if_pos rfl] at H; exact H
        clear H
        have H := H1
        clear H1
        have H' := Aside0.mk H
        clear H
        obtain ⟨Ao55, co55, eo55⟩ := Kd.R_slice HO307.out
        subst eo55
        go_wp2_with (first | ((with_reducible refine gate_callee (f := 75) rfl ?_); refine goesL_ (some 56) rfl rfl Try.func75 (by kernel_rfl) rfl #[.slice Ao55 t305.length co55] rfl (by (try simp only [List.map_toArray, List.map_cons, List.map_nil]); first | done | rfl | (simp only [List.length_drop, List.length_take]; rfl)) ?_; (with_reducible refine (laws_ascends.calls kj15 _ _ t305 true _ ?side1 ?side2 A53.out).mono ?_); (case side1 => repeat (first | exact (Kd.R_reads' HO307.out).2.2 | (with_reducible refine Kd.C_alloc ?_ _) | (with_reducible refine Kd.C_drewN ?_ _) | (with_reducible refine Kd.C_drew ?_))); (case side2 => exact (Kd.R_reads' HO307.out).2.1); rintro e w' ⟨rfl, ⟨nd, rfl⟩⟩; refine ⟨_, rfl, ?_⟩))
        go_meet
        case rel => exact ⟨_, (decide ((t305.length : Int) > 4)), (by first | rfl | (simp; done) | (simp [*]; done)), H', ⟨by have := HJ15.out; first | omega | exact Nat.le_refl _⟩, ⟨by (with_reducible repeat (first | apply Kd.R_alloc | apply Kd.R_drewN | apply Kd.R_drew)); exact Kd.R_mono HO307.out (fun _ hk => ⟨(by first | exact hk.1.2 | exact hk.1.1 | exact hk.1.2.1 | exact hk.1.2.2 | exact hk.2), (by first | exact hk.2 | exact hk.1.1 | exact hk.1.2.1 | exact hk.1.2.2 | exact hk.2)⟩)⟩, ⟨by (with_reducible repeat (first | apply Kd.Q_alloc | apply Kd.Q_drewN | apply Kd.Q_drew)); exact Kd.Q_mono HO_292002.out (fun _ hk => ⟨(by first | exact hk.2 | exact hk.1.1 | exact hk.1.2.1 | exact hk.1.2.2 | exact hk.2), (by first | exact hk.1.2 | exact hk.1.1 | exact hk.1.2.1 | exact hk.1.2.2 | exact hk.2)⟩)⟩, ⟨by (with_reducible repeat (first | apply Kd.Q_alloc | apply Kd.Q_drewN | apply Kd.Q_drew)); exact Kd.Q_mono HO302.out (fun _ hk => ⟨(by first | exact hk.2 | exact hk.1.1 | exact hk.1.2.1 | exact hk.1.2.2 | exact hk.2), (by first | exact hk.1.2 | exact hk.1.1 | exact hk.1.2.1 | exact hk.1.2.2 | exact hk.2)⟩)⟩, ⟨by (with_reducible repeat (first | refine blk_drewN ?_ _ | refine blk_drew ?_ | refine blk_alloc ?_ _)); exact BK291.out⟩, ⟨by (with_reducible repeat (first | refine blk_drewN ?_ _ | refine blk_drew ?_ | refine blk_alloc ?_ _)); exact BK304.out⟩, ⟨by repeat (first | (with_reducible first | exact HB.out | apply below_alloc | apply pw_below_drewN | apply below_drew1 | refine below_set ?_ GE291.out | refine below_set ?_ GE304.out) | exact HB.out)⟩⟩
       ·replace c54 := Bool.eq_false_iff.mpr c54
        subst c54
        have H1 : (laws_FnLand.j1 kj15 l0 t303 t305 true t298 t299 t300) = some r := by rw [if_neg (show ¬ (false = true) by decide)] at H; exact H
        clear H
        have H := H1
        clear H1
        have H' := Aside0.mk H
        clear H
        obtain ⟨Ao56, co56, eo56⟩ := Kd.R_slice HO307.out
        subst eo56
        go_wp2_with (first | ((with_reducible refine gate_callee (f := 75) rfl ?_); refine goesL_ (some 56) rfl rfl Try.func75 (by kernel_rfl) rfl #[.slice Ao56 t305.length co56] rfl (by (try simp only [List.map_toArray, List.map_cons, List.map_nil]); first | done | rfl | (simp only [List.length_drop, List.length_take]; rfl)) ?_; (with_reducible refine (laws_ascends.calls kj15 _ _ t305 false _ ?side1 ?side2 A53.out).mono ?_); (case side1 => repeat (first | exact (Kd.R_reads' HO307.out).2.2 | (with_reducible refine Kd.C_alloc ?_ _) | (with_reducible refine Kd.C_drewN ?_ _) | (with_reducible refine Kd.C_drew ?_))); (case side2 => exact (Kd.R_reads' HO307.out).2.1); rintro e w' ⟨rfl, ⟨nd, rfl⟩⟩; refine ⟨_, rfl, ?_⟩))
        go_meet
        case rel => exact ⟨_, (true), (by first | rfl | (simp; done) | (simp [*]; done)), H', ⟨by have := HJ15.out; first | omega | exact Nat.le_refl _⟩, ⟨by (with_reducible repeat (first | apply Kd.R_alloc | apply Kd.R_drewN | apply Kd.R_drew)); exact Kd.R_mono HO307.out (fun _ hk => ⟨(by first | exact hk.1.2 | exact hk.1.1 | exact hk.1.2.1 | exact hk.1.2.2 | exact hk.2), (by first | exact hk.2 | exact hk.1.1 | exact hk.1.2.1 | exact hk.1.2.2 | exact hk.2)⟩)⟩, ⟨by (with_reducible repeat (first | apply Kd.Q_alloc | apply Kd.Q_drewN | apply Kd.Q_drew)); exact Kd.Q_mono HO_292002.out (fun _ hk => ⟨(by first | exact hk.2 | exact hk.1.1 | exact hk.1.2.1 | exact hk.1.2.2 | exact hk.2), (by first | exact hk.1.2 | exact hk.1.1 | exact hk.1.2.1 | exact hk.1.2.2 | exact hk.2)⟩)⟩, ⟨by (with_reducible repeat (first | apply Kd.Q_alloc | apply Kd.Q_drewN | apply Kd.Q_drew)); exact Kd.Q_mono HO302.out (fun _ hk => ⟨(by first | exact hk.2 | exact hk.1.1 | exact hk.1.2.1 | exact hk.1.2.2 | exact hk.2), (by first | exact hk.1.2 | exact hk.1.1 | exact hk.1.2.1 | exact hk.1.2.2 | exact hk.2)⟩)⟩, ⟨by (with_reducible repeat (first | refine blk_drewN ?_ _ | refine blk_drew ?_ | refine blk_alloc ?_ _)); exact BK291.out⟩, ⟨by (with_reducible repeat (first | refine blk_drewN ?_ _ | refine blk_drew ?_ | refine blk_alloc ?_ _)); exact BK304.out⟩, ⟨by repeat (first | (with_reducible first | exact HB.out | apply below_alloc | apply pw_below_drewN | apply below_drew1 | refine below_set ?_ GE291.out | refine below_set ?_ GE304.out) | exact HB.out)⟩⟩
      case rest =>
       clear HC46
       try clear c2
       try clear p2
       try clear c4
       try clear c5
       try clear c6
       try clear c7
       try clear c26
       try clear c27
       try clear c27b0
       try clear c27b1
       try clear c29
       try clear c43
       try clear c49
       try clear c54
       try clear hcz50_0
       try clear hcz50_1
       try clear hcz50_2
       try clear hfz50_0
       try clear hfz50_1
       try clear hfz50_2
       try clear p2
       obtain ⟨kq, x62_45, rfl, HA, HJ45, HO_8, HO_292002, HO_305002, BK291, BK304, HB⟩ := hcut
       cases kq with
       | zero => exact absurd HA.out (by simp [laws_FnLand.j1])
       | succ kj45 =>
        have H := HA.out
        clear HA
        simp only [laws_FnLand.j1] at H
        by_cases c57 : x62_45 = true
        ·subst c57
         have H1 : (some false) = some r := by rw [if_pos rfl] at H; exact H
         clear H
         have H := H1
         clear H1
         obtain rfl := Option.some.inj H
         go_wp2
         go_ret
         exact ⟨by first | rfl | (simp [errW_none, errW_some] <;> rfl) | (simp [*, errW_none, errW_some] <;> rfl), by repeat (first | (with_reducible first | exact HB.out | apply below_alloc | apply pw_below_drewN | apply below_drew1 | refine below_set ?_ GE291.out | refine below_set ?_ GE304.out) | exact HB.out)⟩
        ·replace c57 := Bool.eq_false_iff.mpr c57
         subst c57
         have H1 : (laws_FnLand.l0 kj45 l0 t303 t305 0 t298 t299 t300) = some r := by rw [if_neg (show ¬ (false = true) by decide)] at H; exact H
         clear H
         have H := H1
         clear H1
         have H' := Aside0.mk H
         clear H
         go_wp2
         go_loopg [9] kj45 (fun kq v9 w' => ∃ (x9_3 : Int), v9 = .int .i64 x9_3 ∧ Aside0 (laws_FnLand.l0 kq l0 t303 t305 x9_3 t298 t299 t300 = some r) ∧ Aside0 (kq ≤ kj45) ∧ Aside0 (Kd.R (Kd.int .i64) 3 w' w.heap.size (fun k_ => some k_ ≠ ((.slice Ao20 t286.length co20) : Value).ownBlock ∧ some k_ ≠ ((.slice Ao51 t300.length co51) : Value).ownBlock) v306 t305) ∧ Aside0 (Kd.Q (Kd.int .i64) 3 w' w.heap.size (fun k_ => some k_ ≠ (v306 : Value).ownBlock ∧ some k_ ≠ ((.slice Ao51 t300.length co51) : Value).ownBlock) (.slice Ao20 t286.length co20) t286) ∧ Aside0 (Kd.Q (Kd.int .i64) 3 w' w.heap.size (fun k_ => some k_ ≠ (v306 : Value).ownBlock ∧ some k_ ≠ ((.slice Ao20 t286.length co20) : Value).ownBlock) (.slice Ao51 t300.length co51) t300) ∧ Aside0 (w'.heap[gb291]? = some (.cells #[.int .i64 t284, .int .i64 t285, (.slice Ao20 t286.length co20)] 36 (0, 0))) ∧ Aside0 (w'.heap[gb304]? = some (.cells #[.int .i64 t298, .int .i64 t299, (.slice Ao51 t300.length co51)] 36 (0, 0))) ∧ Aside0 (Below w.heap.size w w'))
         case atStart => exact ⟨(0), (by first | rfl | (simp; done) | (simp [*]; done)), H', ⟨Nat.le_refl _⟩, ⟨by (with_reducible repeat (first | apply Kd.R_alloc | apply Kd.R_drewN | apply Kd.R_drew)); exact HO_8.out⟩, ⟨by (with_reducible repeat (first | apply Kd.Q_alloc | apply Kd.Q_drewN | apply Kd.Q_drew)); exact HO_292002.out⟩, ⟨by (with_reducible repeat (first | apply Kd.Q_alloc | apply Kd.Q_drewN | apply Kd.Q_drew)); exact HO_305002.out⟩, ⟨by (with_reducible repeat (first | refine blk_drewN ?_ _ | refine blk_drew ?_ | refine blk_alloc ?_ _)); exact BK291.out⟩, ⟨by (with_reducible repeat (first | refine blk_drewN ?_ _ | refine blk_drew ?_ | refine blk_alloc ?_ _)); exact BK304.out⟩, ⟨by repeat (first | (with_reducible first | exact HB.out | apply below_alloc | apply pw_below_drewN | apply below_drew1 | refine below_set ?_ GE291.out | refine below_set ?_ GE304.out) | exact HB.out)⟩⟩
         case round =>
          clear H'
          try clear c2
          try clear p2
          try clear c4
          try clear c5
          try clear c6
          try clear c7
          try clear c26
          try clear c27
          try clear c27b0
          try clear c27b1
          try clear c29
          try clear c43
          try clear c49
          try clear c54
          try clear c57
          try clear hcz50_0
          try clear hcz50_1
          try clear hcz50_2
          try clear hfz50_0
          try clear hfz50_1
          try clear hfz50_2
          try clear p2
          obtain ⟨x9_3, rfl, HA, HK3, HO_8, HO_292002, HO_305002, BK291, BK304, HB⟩ := hrel
          cases gk with
          | zero => exact absurd HA.out (by simp [laws_FnLand.l0])
          | succ k3 =>
           have H := HA.out
           clear HA
           simp only [laws_FnLand.l0] at H
           by_cases c58 : x9_3 < (t305.length : Int)
           ·rw [if_pos c58] at H
            have c58b0 : decide (x9_3 < (t305.length : Int)) = true := decide_eq_true c58
            clear c58
            by_cases c59 : 0 ≤ x9_3
            ·rw [if_pos c59] at H
             have c59b0 : decide (0 ≤ x9_3) = true := decide_eq_true c59
             clear c59
             replace H := Option.bind_eq_some_iff.mp H
             obtain ⟨t310, A600, H⟩ := H
             replace H : (if t310 = true then ((impl_Apart.f k3 t298 t299 t300 t303 (rd t305 x9_3)).bind fun t312 => (if t312 = 1 then ((impl_IsOpen.f k3 t298 t299 t300 t303).bind fun t313 => (if t313 = true then ((impl_Near.f k3 t298 t299 t300 (rd t305 x9_3)).bind fun t315 => ((laws_contains.f k3 t315 t303).bind fun t318 => (if t318 = true then (laws_FnLand.l0 k3 l0 t303 t305 (wrap64 (x9_3 + 1)) t298 t299 t300) else (some false)))) else (laws_FnLand.l0 k3 l0 t303 t305 (wrap64 (x9_3 + 1)) t298 t299 t300))) else (some false))) else (some false)) = some r := H
             have A60 := Aside0.mk A600
             clear A600
             by_cases c61 : t310 = true
             ·subst c61
              have H1 : ((impl_Apart.f k3 t298 t299 t300 t303 (rd t305 x9_3)).bind fun t312 => (if t312 = 1 then ((impl_IsOpen.f k3 t298 t299 t300 t303).bind fun t313 => (if t313 = true then ((impl_Near.f k3 t298 t299 t300 (rd t305 x9_3)).bind fun t315 => ((laws_contains.f k3 t315 t303).bind fun t318 => (if t318 = true then (laws_FnLand.l0 k3 l0 t303 t305 (wrap64 (x9_3 + 1)) t298 t299 t300) else (some false)))) else (laws_FnLand.l0 k3 l0 t303 t305 (wrap64 (x9_3 + 1)) t298 t299 t300))) else (some false))) = some r := by rw [if_pos rfl] at H; exact H
              clear H
              have H := H1
              clear H1
              replace H := Option.bind_eq_some_iff.mp H
              obtain ⟨t312, A620, H⟩ := H
              replace H : (if t312 = 1 then ((impl_IsOpen.f k3 t298 t299 t300 t303).bind fun t313 => (if t313 = true then ((impl_Near.f k3 t298 t299 t300 (rd t305 x9_3)).bind fun t315 => ((laws_contains.f k3 t315 t303).bind fun t318 => (if t318 = true then (laws_FnLand.l0 k3 l0 t303 t305 (wrap64 (x9_3 + 1)) t298 t299 t300) else (some false)))) else (laws_FnLand.l0 k3 l0 t303 t305 (wrap64 (x9_3 + 1)) t298 t299 t300))) else (some false)) = some r := H
              have A62 := Aside0.mk A620
              clear A620
              by_cases c63 : t312 = 1
              ·rw [if_pos c63] at H
               have c63b0 : (t312 == 1) = true := beq_iff_eq.mpr c63
               have c63b1 : (t312 != 1) = false := bne_eq_false_iff_eq.mpr c63
               clear c63
               replace H := Option.bind_eq_some_iff.mp H
               obtain ⟨t313, A640, H⟩ := H
               replace H : (if t313 = true then ((impl_Near.f k3 t298 t299 t300 (rd t305 x9_3)).bind fun t315 => ((laws_contains.f k3 t315 t303).bind fun t318 => (if t318 = true then (laws_FnLand.l0 k3 l0 t303 t305 (wrap64 (x9_3 + 1)) t298 t299 t300) else (some false)))) else (laws_FnLand.l0 k3 l0 t303 t305 (wrap64 (x9_3 + 1)) t298 t299 t300)) = some r := H
               have A64 := Aside0.mk A640
               clear A640
               by_cases c65 : t313 = true
               ·subst c65
                have H1 : ((impl_Near.f k3 t298 t299 t300 (rd t305 x9_3)).bind fun t315 => ((laws_contains.f k3 t315 t303).bind fun t318 => (if t318 = true then (laws_FnLand.l0 k3 l0 t303 t305 (wrap64 (x9_3 + 1)) t298 t299 t300) else (some false)))) = some r := by rw [if_pos rfl] at H; exact H
                clear H
                have H := H1
                clear H1
                replace H := Option.bind_eq_some_iff.mp H
                obtain ⟨t315, A660, H⟩ := H
                replace H : ((laws_contains.f k3 t315 t303).bind fun t318 => (if t318 = true then (laws_FnLand.l0 k3 l0 t303 t305 (wrap64 (x9_3 + 1)) t298 t299 t300) else (some false))) = some r := H
                have A66 := Aside0.mk A660
                clear A660
                replace H := Option.bind_eq_some_iff.mp H
                obtain ⟨t318, A670, H⟩ := H
                replace H : (if t318 = true then (laws_FnLand.l0 k3 l0 t303 t305 (wrap64 (x9_3 + 1)) t298 t299 t300) else (some false)) = some r := H
                have A67 := Aside0.mk A670
                clear A670
                by_cases c68 : t318 = true
                ·subst c68
                 have H1 : (laws_FnLand.l0 k3 l0 t303 t305 (wrap64 (x9_3 + 1)) t298 t299 t300) = some r := by rw [if_pos rfl] at H; exact H
                 clear H
                 have H := H1
                 clear H1
                 have H' := Aside0.mk H
                 clear H
                 obtain ⟨Ao69, co69, eo69⟩ := Kd.R_slice HO_8.out
                 subst eo69
                 try go_wp2
                 have n0_ := Aside0.mk (Kd.R_drew HO_8.out)
                 have n1_ := Aside0.mk (Kd.Q_drew HO_292002.out)
                 have n2_ := Aside0.mk (Kd.Q_drew HO_305002.out)
                 have n3_ := Aside0.mk (blk_drew BK291.out)
                 have n4_ := Aside0.mk (blk_drew BK304.out)
                 have n5_ := Aside0.mk (below_drew1 HB.out)
                 clear HO_8
                 clear HO_292002
                 clear HO_305002
                 clear BK291
                 clear BK304
                 clear HB
                 have HO_8 := n0_
                 have HO_292002 := n1_
                 have HO_305002 := n2_
                 have BK291 := n3_
                 have BK304 := n4_
                 have HB := n5_
                 clear n0_ n1_ n2_ n3_ n4_ n5_
                 have p309 : 0 ≤ (x9_3 : Int) := of_decide_eq_true (by first | (with_reducible assumption) | assumption)
                 have q309 : x9_3 < (t305.length : Int) := of_decide_eq_true (by first | (with_reducible assumption) | assumption)
                 obtain ⟨ad309, e309, hx309_0⟩ := Kd.at_int (Kd.R_reads' HO_8.out).2.2 x9_3 p309 q309
                 cases e309
                 replace p309 := eq_true p309
                 replace q309 := eq_true q309
                 have p311 : 0 ≤ (x9_3 : Int) := of_decide_eq_true (by first | (with_reducible assumption) | assumption)
                 have q311 : x9_3 < (t305.length : Int) := of_decide_eq_true (by first | (with_reducible assumption) | assumption)
                 obtain ⟨ad311, e311, hx311_0⟩ := Kd.at_int (Kd.R_reads' HO_8.out).2.2 x9_3 p311 q311
                 obtain rfl : ad309 = ad311 := (by injection e311)
                 replace p311 := eq_true p311
                 replace q311 := eq_true q311
                 have p314 : 0 ≤ (x9_3 : Int) := of_decide_eq_true (by first | (with_reducible assumption) | assumption)
                 have q314 : x9_3 < (t305.length : Int) := of_decide_eq_true (by first | (with_reducible assumption) | assumption)
                 obtain ⟨ad314, e314, hx314_0⟩ := Kd.at_int (Kd.R_reads' HO_8.out).2.2 x9_3 p314 q314
                 obtain rfl : ad309 = ad314 := (by injection e314)
                 replace p314 := eq_true p314
                 replace q314 := eq_true q314
                 refine start_ (n := 33) (S := fun w' => w'.cell? ⟨gb304, 0, none⟩ = some (.int .i64 t298) ∧ w'.cell? ⟨gb304, 1, none⟩ = some (.int .i64 t299) ∧ w'.cell? ⟨gb304, 2, none⟩ = some (.slice Ao51 t300.length co51) ∧ w'.cell? (ad309.add (x9_3).toNat) = some (.int .i64 (rd t305 x9_3)) ∧ w'.cell? (ad309.add (x9_3).toNat) = some (.int .i64 (rd t305 x9_3)) ∧ w'.cell? (ad309.add (x9_3).toNat) = some (.int .i64 (rd t305 x9_3))) (ds := []) (bz 33 0) (by kernel_rfl) rfl rfl ⟨(blk_cell BK304.out 0).trans rfl, (blk_cell BK304.out 1).trans rfl, (blk_cell BK304.out 2).trans rfl, hx309_0, hx311_0, hx314_0⟩ (fun hHeld => ?_); refine with_tabW laws_FnLand.tab15 laws_FnLand.bits15 (fun HT_ HW_ => ?_)
                 generalize wr.drew = w70 at HO_8 HO_292002 HO_305002 BK291 BK304 HB hx309_0 hx311_0 hx314_0 hHeld ⊢
                 refine pure_ (i := 1) (N := some 70) (v := ?_) (a' := ?_) (bz 33 2) rfl rfl (any_of HT_.out (by kernel_rfl)) (fun _ _ _ h => h) (Or.inl ⟨by rfl, ?_⟩) ?_ ?_; rotate_left; (intro w'; go_simp; with_reducible rfl); rotate_left; (simp only [Act.put, ls1, ls2, ls3, i64_w, i32_w]; rfl)
                 refine pure_ (i := 2) (N := some 71) (v := ?_) (a' := ?_) (bz 33 6) rfl rfl (any_of HT_.out (by kernel_rfl)) (fun _ _ _ h => h) (Or.inl ⟨by rfl, ?_⟩) ?_ ?_; rotate_left; (intro w'; go_simp; with_reducible rfl); rotate_left; (simp only [Act.put, ls1, ls2, ls3, i64_w, i32_w]; rfl)
                 refine pure_ (i := 3) (N := some 72) (v := ?_) (a' := ?_) (bz 33 14) rfl rfl (any_of HT_.out (by kernel_rfl)) (fun _ _ _ h => h) (Or.inl ⟨by rfl, ?_⟩) ?_ ?_; rotate_left; (intro w'; go_simp; with_reducible rfl); rotate_left; (simp only [Act.put, ls1, ls2, ls3, i64_w, i32_w]; rfl)
                 refine take_ (i := 0) (N := some 69) (v := ?_) (a' := ?_) (bz 33 15) rfl rfl (take_ofW HT_.out HW_.out (by kernel_rfl)) (fun _ _ _ h => h) (Or.inl ⟨by rfl, ?_⟩) hHeld ?_ ?_; rotate_left; (rintro w' ⟨s0, s1, s2, s3, s4, s5⟩; go_simp; with_reducible rfl); rotate_left; (simp only [Act.put, ls1, ls2, ls3, i64_w, i32_w]; rfl)
                 refine take_ (i := 4) (N := some 73) (v := ?_) (a' := ?_) (bz 33 31) rfl rfl (take_ofW HT_.out HW_.out (by kernel_rfl)) (fun _ _ _ h => h) (Or.inl ⟨by rfl, ?_⟩) hHeld ?_ ?_; rotate_left; (rintro w' ⟨s0, s1, s2, s3, s4, s5⟩; go_simp; with_reducible rfl); rotate_left; (simp only [Act.put, ls1, ls2, ls3, i64_w, i32_w]; rfl)
                 refine one_ (i := 5) (N := some 74) (bz 33 63) rfl rfl (one_of HT_.out (by kernel_rfl)) (by decide) (fun K hK => ?_)
                 refine goes_ Try.func76 (by kernel_rfl) rfl #[.agg #[.int .i64 t298, .int .i64 t299, .slice Ao51 t300.length co51], .int .i64 (rd t305 x9_3)] (by rfl) rfl rfl (by (try simp only [List.map_toArray, List.map_cons, List.map_nil]); first | done | rfl | (simp only [List.length_drop, List.length_take]; rfl)) ?_
                 with_reducible refine (impl_IsOpen.calls k3 t298 t299 _ _ t300 (rd t305 x9_3) true _ ?side1 ?side2 A60.out).mono ?_
                 (case side1 => repeat (first | exact (Kd.Q_reads' HO_305002.out).2.2 | (with_reducible refine Kd.C_alloc ?_ _) | (with_reducible refine Kd.C_drewN ?_ _) | (with_reducible refine Kd.C_drew ?_)))
                 (case side2 => exact (Kd.Q_reads' HO_305002.out).2.1)
                 rintro e w71 ⟨rfl, hb⟩
                 have HS3_ := (hb.cell (World.block_lt_of_cell? _ _ (hHeld.2.2.2.1))).trans (hHeld.2.2.2.1)
                 have HS4_ := (hb.cell (World.block_lt_of_cell? _ _ (hHeld.2.2.2.2.1))).trans (hHeld.2.2.2.2.1)
                 have HS5_ := (hb.cell (World.block_lt_of_cell? _ _ (hHeld.2.2.2.2.2))).trans (hHeld.2.2.2.2.2)
                 refine ⟨_, rfl, ?_⟩
                 have n0_ := Aside0.mk (Kd.R_below (by (with_reducible repeat (first | apply Kd.R_alloc | apply Kd.R_drewN | apply Kd.R_drew)); exact HO_8.out) hb)
                 have n1_ := Aside0.mk (Kd.Q_below (by (with_reducible repeat (first | apply Kd.Q_alloc | apply Kd.Q_drewN | apply Kd.Q_drew)); exact HO_292002.out) hb)
                 have n2_ := Aside0.mk (Kd.Q_below (by (with_reducible repeat (first | apply Kd.Q_alloc | apply Kd.Q_drewN | apply Kd.Q_drew)); exact HO_305002.out) hb)
                 have n3_ := Aside0.mk (blk_below (g := gb291) (o := .cells #[.int .i64 t284, .int .i64 t285, .slice Ao20 t286.length co20] 36 (0, 0)) (by (with_reducible repeat (first | refine blk_drewN ?_ _ | refine blk_drew ?_ | refine blk_alloc ?_ _)); exact BK291.out) hb)
                 have n4_ := Aside0.mk (blk_below (g := gb304) (o := .cells #[.int .i64 t298, .int .i64 t299, .slice Ao51 t300.length co51] 36 (0, 0)) (by (with_reducible repeat (first | refine blk_drewN ?_ _ | refine blk_drew ?_ | refine blk_alloc ?_ _)); exact BK304.out) hb)
                 have n5_ := Aside0.mk (below_step (by repeat (first | (with_reducible first | exact HB.out | apply below_alloc | apply pw_below_drewN | apply below_drew1 | refine below_set ?_ GE291.out | refine below_set ?_ GE304.out) | exact HB.out)) hb)
                 clear HO_8
                 clear HO_292002
                 clear HO_305002
                 clear BK291
                 clear BK304
                 clear HB
                 have HO_8 := n0_
                 have HO_292002 := n1_
                 have HO_305002 := n2_
                 have BK291 := n3_
                 have BK304 := n4_
                 have HB := n5_
                 clear n0_ n1_ n2_ n3_ n4_ n5_
                 (try clear hb)
                 (try clear hb2)
                 (try clear hk)
                 (try clear hi)
                 refine hK.out _ _ ⟨(blk_cell BK304.out 0).trans rfl, (blk_cell BK304.out 1).trans rfl, (blk_cell BK304.out 2).trans rfl, HS3_, HS4_, HS5_⟩ (fun hHeld => ?_)
                 clear hK K
                 refine norm_ (a' := ?_) ?_ ?_
                 rotate_left
                 ·show Act.put _ (some 74) _ = _
                  simp only [Act.put, ls1, ls2, ls3, i64_w, i32_w]
                  rfl
                 refine pure_ (i := 6) (N := some 75) (v := ?_) (a' := ?_) (bz 33 127) rfl rfl (any_of HT_.out (by kernel_rfl)) (fun _ _ _ h => h) (Or.inl ⟨by rfl, ?_⟩) ?_ ?_; rotate_left; (intro w'; go_simp; with_reducible rfl); rotate_left; (simp only [Act.put, ls1, ls2, ls3, i64_w, i32_w]; rfl)
                 refine pure_ (i := 7) (N := some 76) (v := ?_) (a' := ?_) (bz 33 255) rfl rfl (any_of HT_.out (by kernel_rfl)) (fun _ _ _ h => h) (Or.inl ⟨by rfl, ?_⟩) ?_ ?_; rotate_left; (intro w'; go_simp; with_reducible rfl); rotate_left; (simp only [Act.put, ls1, ls2, ls3, i64_w, i32_w]; rfl)
                 refine pure_ (i := 9) (N := some 78) (v := ?_) (a' := ?_) (bz 33 767) rfl rfl (any_of HT_.out (by kernel_rfl)) (fun _ _ _ h => h) (Or.inl ⟨by rfl, ?_⟩) ?_ ?_; rotate_left; (intro w'; go_simp; with_reducible rfl); rotate_left; (simp only [Act.put, ls1, ls2, ls3, i64_w, i32_w]; rfl)
                 refine pure_ (i := 10) (N := some 79) (v := ?_) (a' := ?_) (bz 33 1791) rfl rfl (any_of HT_.out (by kernel_rfl)) (fun _ _ _ h => h) (Or.inl ⟨by rfl, ?_⟩) ?_ ?_; rotate_left; (intro w'; go_simp; with_reducible rfl); rotate_left; (simp only [Act.put, ls1, ls2, ls3, i64_w, i32_w]; rfl)
                 refine pure_ (i := 11) (N := some 80) (v := ?_) (a' := ?_) (bz 33 3839) rfl rfl (any_of HT_.out (by kernel_rfl)) (fun _ _ _ h => h) (Or.inl ⟨by rfl, ?_⟩) ?_ ?_; rotate_left; (intro w'; go_simp; with_reducible rfl); rotate_left; (simp only [Act.put, ls1, ls2, ls3, i64_w, i32_w]; rfl)
                 refine pure_ (i := 12) (N := some 81) (v := ?_) (a' := ?_) (bz 33 7935) rfl rfl (any_of HT_.out (by kernel_rfl)) (fun _ _ _ h => h) (Or.inl ⟨by rfl, ?_⟩) ?_ ?_; rotate_left; (intro w'; go_simp; with_reducible rfl); rotate_left; (simp only [Act.put, ls1, ls2, ls3, i64_w, i32_w]; rfl)
                 refine take_ (i := 8) (N := some 77) (v := ?_) (a' := ?_) (bz 33 8191) rfl rfl (take_ofW HT_.out HW_.out (by kernel_rfl)) (fun _ _ _ h => h) (Or.inl ⟨by rfl, ?_⟩) hHeld ?_ ?_; rotate_left; (rintro w' ⟨s0, s1, s2, s3, s4, s5⟩; go_simp; with_reducible rfl); rotate_left; (simp only [Act.put, ls1, ls2, ls3, i64_w, i32_w]; rfl)
                 refine take_ (i := 13) (N := some 82) (v := ?_) (a' := ?_) (bz 33 16383) rfl rfl (take_ofW HT_.out HW_.out (by kernel_rfl)) (fun _ _ _ h => h) (Or.inl ⟨by rfl, ?_⟩) hHeld ?_ ?_; rotate_left; (rintro w' ⟨s0, s1, s2, s3, s4, s5⟩; go_simp; with_reducible rfl); rotate_left; (simp only [Act.put, ls1, ls2, ls3, i64_w, i32_w]; rfl)
                 refine one_ (i := 14) (N := some 83) (bz 33 32767) rfl rfl (one_of HT_.out (by kernel_rfl)) (by decide) (fun K hK => ?_)
                 refine goes_ Try.func26 (by kernel_rfl) rfl #[.agg #[.int .i64 t298, .int .i64 t299, .slice Ao51 t300.length co51], .int .i64 t303, .int .i64 (rd t305 x9_3)] (by rfl) rfl rfl (by (try simp only [List.map_toArray, List.map_cons, List.map_nil]); first | done | rfl | (simp only [List.length_drop, List.length_take]; rfl)) ?_
                 with_reducible refine (impl_Apart.calls k3 t298 t299 _ _ t300 t303 (rd t305 x9_3) t312 _ ?side1 ?side2 A62.out).mono ?_
                 (case side1 => repeat (first | exact (Kd.Q_reads' HO_305002.out).2.2 | (with_reducible refine Kd.C_alloc ?_ _) | (with_reducible refine Kd.C_drewN ?_ _) | (with_reducible refine Kd.C_drew ?_)))
                 (case side2 => exact (Kd.Q_reads' HO_305002.out).2.1)
                 rintro e w72 ⟨rfl, hb⟩
                 have HS3_ := (hb.cell (World.block_lt_of_cell? _ _ (hHeld.2.2.2.1))).trans (hHeld.2.2.2.1)
                 have HS4_ := (hb.cell (World.block_lt_of_cell? _ _ (hHeld.2.2.2.2.1))).trans (hHeld.2.2.2.2.1)
                 have HS5_ := (hb.cell (World.block_lt_of_cell? _ _ (hHeld.2.2.2.2.2))).trans (hHeld.2.2.2.2.2)
                 refine ⟨_, rfl, ?_⟩
                 have n0_ := Aside0.mk (Kd.R_below (by (with_reducible repeat (first | apply Kd.R_alloc | apply Kd.R_drewN | apply Kd.R_drew)); exact HO_8.out) hb)
                 have n1_ := Aside0.mk (Kd.Q_below (by (with_reducible repeat (first | apply Kd.Q_alloc | apply Kd.Q_drewN | apply Kd.Q_drew)); exact HO_292002.out) hb)
                 have n2_ := Aside0.mk (Kd.Q_below (by (with_reducible repeat (first | apply Kd.Q_alloc | apply Kd.Q_drewN | apply Kd.Q_drew)); exact HO_305002.out) hb)
                 have n3_ := Aside0.mk (blk_below (g := gb291) (o := .cells #[.int .i64 t284, .int .i64 t285, .slice Ao20 t286.length co20] 36 (0, 0)) (by (with_reducible repeat (first | refine blk_drewN ?_ _ | refine blk_drew ?_ | refine blk_alloc ?_ _)); exact BK291.out) hb)
                 have n4_ := Aside0.mk (blk_below (g := gb304) (o := .cells #[.int .i64 t298, .int .i64 t299, .slice Ao51 t300.length co51] 36 (0, 0)) (by (with_reducible repeat (first | refine blk_drewN ?_ _ | refine blk_drew ?_ | refine blk_alloc ?_ _)); exact BK304.out) hb)
                 have n5_ := Aside0.mk (below_step (by repeat (first | (with_reducible first | exact HB.out | apply below_alloc | apply pw_below_drewN | apply below_drew1 | refine below_set ?_ GE291.out | refine below_set ?_ GE304.out) | exact HB.out)) hb)
                 clear HO_8
                 clear HO_292002
                 clear HO_305002
                 clear BK291
                 clear BK304
                 clear HB
                 have HO_8 := n0_
                 have HO_292002 := n1_
                 have HO_305002 := n2_
                 have BK291 := n3_
                 have BK304 := n4_
                 have HB := n5_
                 clear n0_ n1_ n2_ n3_ n4_ n5_
                 (try clear hb)
                 (try clear hb2)
                 (try clear hk)
                 (try clear hi)
                 refine hK.out _ _ ⟨(blk_cell BK304.out 0).trans rfl, (blk_cell BK304.out 1).trans rfl, (blk_cell BK304.out 2).trans rfl, HS3_, HS4_, HS5_⟩ (fun hHeld => ?_)
                 clear hK K
                 refine norm_ (a' := ?_) ?_ ?_
                 rotate_left
                 ·show Act.put _ (some 83) _ = _
                  simp only [Act.put, ls1, ls2, ls3, i64_w, i32_w]
                  rfl
                 refine pure_ (i := 15) (N := some 84) (v := ?_) (a' := ?_) (bz 33 65535) rfl rfl (any_of HT_.out (by kernel_rfl)) (fun _ _ _ h => h) (Or.inl ⟨by rfl, ?_⟩) ?_ ?_; rotate_left; (intro w'; go_simp; with_reducible rfl); rotate_left; (simp only [Act.put, ls1, ls2, ls3, i64_w, i32_w]; rfl)
                 refine pure_ (i := 16) (N := some 85) (v := ?_) (a' := ?_) (bz 33 131071) rfl rfl (any_of HT_.out (by kernel_rfl)) (fun _ _ _ h => h) (Or.inl ⟨by rfl, ?_⟩) ?_ ?_; rotate_left; (intro w'; go_simp; with_reducible rfl); rotate_left; (simp only [Act.put, ls1, ls2, ls3, i64_w, i32_w]; rfl)
                 refine pure_ (i := 17) (N := some 86) (v := ?_) (a' := ?_) (bz 33 262143) rfl rfl (any_of HT_.out (by kernel_rfl)) (fun _ _ _ h => h) (Or.inl ⟨by rfl, ?_⟩) ?_ ?_; rotate_left; (intro w'; go_simp; with_reducible rfl); rotate_left; (simp only [Act.put, ls1, ls2, ls3, i64_w, i32_w]; rfl)
                 refine pure_ (i := 19) (N := some 88) (v := ?_) (a' := ?_) (bz 33 786431) rfl rfl (any_of HT_.out (by kernel_rfl)) (fun _ _ _ h => h) (Or.inl ⟨by rfl, ?_⟩) ?_ ?_; rotate_left; (intro w'; go_simp; with_reducible rfl); rotate_left; (simp only [Act.put, ls1, ls2, ls3, i64_w, i32_w]; rfl)
                 refine take_ (i := 18) (N := some 87) (v := ?_) (a' := ?_) (bz 33 1048575) rfl rfl (take_ofW HT_.out HW_.out (by kernel_rfl)) (fun _ _ _ h => h) (Or.inl ⟨by rfl, ?_⟩) hHeld ?_ ?_; rotate_left; (rintro w' ⟨s0, s1, s2, s3, s4, s5⟩; go_simp; with_reducible rfl); rotate_left; (simp only [Act.put, ls1, ls2, ls3, i64_w, i32_w]; rfl)
                 refine one_ (i := 20) (N := some 89) (bz 33 2097151) rfl rfl (one_of HT_.out (by kernel_rfl)) (by decide) (fun K hK => ?_)
                 refine goes_ Try.func76 (by kernel_rfl) rfl #[.agg #[.int .i64 t298, .int .i64 t299, .slice Ao51 t300.length co51], .int .i64 t303] (by rfl) rfl rfl (by (try simp only [List.map_toArray, List.map_cons, List.map_nil]); first | done | rfl | (simp only [List.length_drop, List.length_take]; rfl)) ?_
                 with_reducible refine (impl_IsOpen.calls k3 t298 t299 _ _ t300 t303 true _ ?side1 ?side2 A64.out).mono ?_
                 (case side1 => repeat (first | exact (Kd.Q_reads' HO_305002.out).2.2 | (with_reducible refine Kd.C_alloc ?_ _) | (with_reducible refine Kd.C_drewN ?_ _) | (with_reducible refine Kd.C_drew ?_)))
                 (case side2 => exact (Kd.Q_reads' HO_305002.out).2.1)
                 rintro e w73 ⟨rfl, hb⟩
                 have HS3_ := (hb.cell (World.block_lt_of_cell? _ _ (hHeld.2.2.2.1))).trans (hHeld.2.2.2.1)
                 have HS4_ := (hb.cell (World.block_lt_of_cell? _ _ (hHeld.2.2.2.2.1))).trans (hHeld.2.2.2.2.1)
                 have HS5_ := (hb.cell (World.block_lt_of_cell? _ _ (hHeld.2.2.2.2.2))).trans (hHeld.2.2.2.2.2)
                 refine ⟨_, rfl, ?_⟩
                 have n0_ := Aside0.mk (Kd.R_below (by (with_reducible repeat (first | apply Kd.R_alloc | apply Kd.R_drewN | apply Kd.R_drew)); exact HO_8.out) hb)
                 have n1_ := Aside0.mk (Kd.Q_below (by (with_reducible repeat (first | apply Kd.Q_alloc | apply Kd.Q_drewN | apply Kd.Q_drew)); exact HO_292002.out) hb)
                 have n2_ := Aside0.mk (Kd.Q_below (by (with_reducible repeat (first | apply Kd.Q_alloc | apply Kd.Q_drewN | apply Kd.Q_drew)); exact HO_305002.out) hb)
                 have n3_ := Aside0.mk (blk_below (g := gb291) (o := .cells #[.int .i64 t284, .int .i64 t285, .slice Ao20 t286.length co20] 36 (0, 0)) (by (with_reducible repeat (first | refine blk_drewN ?_ _ | refine blk_drew ?_ | refine blk_alloc ?_ _)); exact BK291.out) hb)
                 have n4_ := Aside0.mk (blk_below (g := gb304) (o := .cells #[.int .i64 t298, .int .i64 t299, .slice Ao51 t300.length co51] 36 (0, 0)) (by (with_reducible repeat (first | refine blk_drewN ?_ _ | refine blk_drew ?_ | refine blk_alloc ?_ _)); exact BK304.out) hb)
                 have n5_ := Aside0.mk (below_step (by repeat (first | (with_reducible first | exact HB.out | apply below_alloc | apply pw_below_drewN | apply below_drew1 | refine below_set ?_ GE291.out | refine below_set ?_ GE304.out) | exact HB.out)) hb)
                 clear HO_8
                 clear HO_292002
                 clear HO_305002
                 clear BK291
                 clear BK304
                 clear HB
                 have HO_8 := n0_
                 have HO_292002 := n1_
                 have HO_305002 := n2_
                 have BK291 := n3_
                 have BK304 := n4_
                 have HB := n5_
                 clear n0_ n1_ n2_ n3_ n4_ n5_
                 (try clear hb)
                 (try clear hb2)
                 (try clear hk)
                 (try clear hi)
                 refine hK.out _ _ ⟨(blk_cell BK304.out 0).trans rfl, (blk_cell BK304.out 1).trans rfl, (blk_cell BK304.out 2).trans rfl, HS3_, HS4_, HS5_⟩ (fun hHeld => ?_)
                 clear hK K
                 refine norm_ (a' := ?_) ?_ ?_
                 rotate_left
                 ·show Act.put _ (some 89) _ = _
                  simp only [Act.put, ls1, ls2, ls3, i64_w, i32_w]
                  rfl
                 refine pure_ (i := 21) (N := some 90) (v := ?_) (a' := ?_) (bz 33 4194303) rfl rfl (any_of HT_.out (by kernel_rfl)) (fun _ _ _ h => h) (Or.inl ⟨by rfl, ?_⟩) ?_ ?_; rotate_left; (intro w'; go_simp; with_reducible rfl); rotate_left; (simp only [Act.put, ls1, ls2, ls3, i64_w, i32_w]; rfl)
                 refine pure_ (i := 23) (N := some 92) (v := ?_) (a' := ?_) (bz 33 12582911) rfl rfl (any_of HT_.out (by kernel_rfl)) (fun _ _ _ h => h) (Or.inl ⟨by rfl, ?_⟩) ?_ ?_; rotate_left; (intro w'; go_simp; with_reducible rfl); rotate_left; (simp only [Act.put, ls1, ls2, ls3, i64_w, i32_w]; rfl)
                 refine pure_ (i := 24) (N := some 93) (v := ?_) (a' := ?_) (bz 33 29360127) rfl rfl (any_of HT_.out (by kernel_rfl)) (fun _ _ _ h => h) (Or.inl ⟨by rfl, ?_⟩) ?_ ?_; rotate_left; (intro w'; go_simp; with_reducible rfl); rotate_left; (simp only [Act.put, ls1, ls2, ls3, i64_w, i32_w]; rfl)
                 refine pure_ (i := 25) (N := some 94) (v := ?_) (a' := ?_) (bz 33 62914559) rfl rfl (any_of HT_.out (by kernel_rfl)) (fun _ _ _ h => h) (Or.inl ⟨by rfl, ?_⟩) ?_ ?_; rotate_left; (intro w'; go_simp; with_reducible rfl); rotate_left; (simp only [Act.put, ls1, ls2, ls3, i64_w, i32_w]; rfl)
                 refine pure_ (i := 28) (N := some 97) (v := ?_) (a' := ?_) (bz 33 331350015) rfl rfl (any_of HT_.out (by kernel_rfl)) (fun _ _ _ h => h) (Or.inl ⟨by rfl, ?_⟩) ?_ ?_; rotate_left; (intro w'; go_simp; with_reducible rfl); rotate_left; (simp only [Act.put, ls1, ls2, ls3, i64_w, i32_w]; rfl)
                 refine take_ (i := 22) (N := some 91) (v := ?_) (a' := ?_) (bz 33 335544319) rfl rfl (take_ofW HT_.out HW_.out (by kernel_rfl)) (fun _ _ _ h => h) (Or.inl ⟨by rfl, ?_⟩) hHeld ?_ ?_; rotate_left; (rintro w' ⟨s0, s1, s2, s3, s4, s5⟩; go_simp; with_reducible rfl); rotate_left; (simp only [Act.put, ls1, ls2, ls3, i64_w, i32_w]; rfl)
                 refine take_ (i := 26) (N := some 95) (v := ?_) (a' := ?_) (bz 33 402653183) rfl rfl (take_ofW HT_.out HW_.out (by kernel_rfl)) (fun _ _ _ h => h) (Or.inl ⟨by rfl, ?_⟩) hHeld ?_ ?_; rotate_left; (rintro w' ⟨s0, s1, s2, s3, s4, s5⟩; go_simp; with_reducible rfl); rotate_left; (simp only [Act.put, ls1, ls2, ls3, i64_w, i32_w]; rfl)
                 refine one_ (i := 27) (N := some 96) (bz 33 536870911) rfl rfl (one_of HT_.out (by kernel_rfl)) (by decide) (fun K hK => ?_)
                 refine goes_ Try.func69 (by kernel_rfl) rfl #[.agg #[.int .i64 t298, .int .i64 t299, .slice Ao51 t300.length co51], .int .i64 (rd t305 x9_3)] (by rfl) rfl rfl (by (try simp only [List.map_toArray, List.map_cons, List.map_nil]); first | done | rfl | (simp only [List.length_drop, List.length_take]; rfl)) ?_
                 with_reducible refine (impl_Near.calls k3 t298 t299 _ _ t300 (rd t305 x9_3) t315 _ ?side1 ?side2 A66.out).mono ?_
                 (case side1 => repeat (first | exact (Kd.Q_reads' HO_305002.out).2.2 | (with_reducible refine Kd.C_alloc ?_ _) | (with_reducible refine Kd.C_drewN ?_ _) | (with_reducible refine Kd.C_drew ?_)))
                 (case side2 => exact (Kd.Q_reads' HO_305002.out).2.1)
                 rintro e w74 ⟨v316, rfl, ho0, hb⟩
                 have HS3_ := (hb.cell (World.block_lt_of_cell? _ _ (hHeld.2.2.2.1))).trans (hHeld.2.2.2.1)
                 have HS4_ := (hb.cell (World.block_lt_of_cell? _ _ (hHeld.2.2.2.2.1))).trans (hHeld.2.2.2.2.1)
                 have HS5_ := (hb.cell (World.block_lt_of_cell? _ _ (hHeld.2.2.2.2.2))).trans (hHeld.2.2.2.2.2)
                 refine ⟨_, rfl, ?_⟩
                 have n0_ := Aside0.mk (Kd.R_elder' (by (with_reducible repeat (first | apply Kd.R_alloc | apply Kd.R_drewN | apply Kd.R_drew)); exact HO_8.out) (Kd.R_base ho0) hb)
                 have n1_ := Aside0.mk (Kd.Q_elder' (by (with_reducible repeat (first | apply Kd.Q_alloc | apply Kd.Q_drewN | apply Kd.Q_drew)); exact HO_292002.out) (Kd.R_base ho0) hb)
                 have n2_ := Aside0.mk (Kd.Q_elder' (by (with_reducible repeat (first | apply Kd.Q_alloc | apply Kd.Q_drewN | apply Kd.Q_drew)); exact HO_305002.out) (Kd.R_base ho0) hb)
                 have n3_ := Aside0.mk (Kd.R_lower (Kd.R_new' (Kd.R_new' (Kd.R_new' ho0 (Kd.R_lt (by (with_reducible repeat (first | apply Kd.R_alloc | apply Kd.R_drewN | apply Kd.R_drew)); exact HO_8.out))) (Kd.Q_lt (by (with_reducible repeat (first | apply Kd.Q_alloc | apply Kd.Q_drewN | apply Kd.Q_drew)); exact HO_292002.out))) (Kd.Q_lt (by (with_reducible repeat (first | apply Kd.Q_alloc | apply Kd.Q_drewN | apply Kd.Q_drew)); exact HO_305002.out))) (below_size (by repeat (first | (with_reducible first | exact HB.out | apply below_alloc | apply pw_below_drewN | apply below_drew1 | refine below_set ?_ GE291.out | refine below_set ?_ GE304.out) | exact HB.out))))
                 have n4_ := Aside0.mk (blk_below (g := gb291) (o := .cells #[.int .i64 t284, .int .i64 t285, .slice Ao20 t286.length co20] 36 (0, 0)) (by (with_reducible repeat (first | refine blk_drewN ?_ _ | refine blk_drew ?_ | refine blk_alloc ?_ _)); exact BK291.out) hb)
                 have n5_ := Aside0.mk (blk_below (g := gb304) (o := .cells #[.int .i64 t298, .int .i64 t299, .slice Ao51 t300.length co51] 36 (0, 0)) (by (with_reducible repeat (first | refine blk_drewN ?_ _ | refine blk_drew ?_ | refine blk_alloc ?_ _)); exact BK304.out) hb)
                 have n6_ := Aside0.mk (below_step (by repeat (first | (with_reducible first | exact HB.out | apply below_alloc | apply pw_below_drewN | apply below_drew1 | refine below_set ?_ GE291.out | refine below_set ?_ GE304.out) | exact HB.out)) hb)
                 clear HO_8
                 clear HO_292002
                 clear HO_305002
                 clear BK291
                 clear BK304
                 clear HB
                 have HO_8 := n0_
                 have HO_292002 := n1_
                 have HO_305002 := n2_
                 have HO317 := n3_
                 have BK291 := n4_
                 have BK304 := n5_
                 have HB := n6_
                 clear n0_ n1_ n2_ n3_ n4_ n5_ n6_
                 (try clear hb)
                 (try clear hb2)
                 (try clear hk)
                 (try clear hi)
                 (try clear ho0)
                 obtain ⟨Ao75, co75, eo75⟩ := Kd.R_slice HO317.out
                 (first | subst eo75 | (injection eo75 with f1_ f2_ f3_; have f4_ := f1_.symm; have f5_ := f3_.symm; clear f1_ f2_ f3_; subst f4_; subst f5_))
                 refine hK.out _ _ ⟨(blk_cell BK304.out 0).trans rfl, (blk_cell BK304.out 1).trans rfl, (blk_cell BK304.out 2).trans rfl, HS3_, HS4_, HS5_⟩ (fun hHeld => ?_)
                 clear hK K
                 refine norm_ (a' := ?_) ?_ ?_
                 rotate_left
                 ·show Act.put _ (some 96) _ = _
                  simp only [Act.put, ls1, ls2, ls3, i64_w, i32_w]
                  rfl
                 refine one_ (i := 29) (N := some 98) (bz 33 1073741823) rfl rfl (one_of HT_.out (by kernel_rfl)) (by decide) (fun K hK => ?_)
                 refine goes_ Try.func77 (by kernel_rfl) rfl #[.slice Ao75 t315.length co75, .int .i64 t303] (by rfl) rfl rfl (by (try simp only [List.map_toArray, List.map_cons, List.map_nil]); first | done | rfl | (simp only [List.length_drop, List.length_take]; rfl)) ?_
                 with_reducible refine (laws_contains.calls k3 _ _ t315 t303 true _ ?side1 ?side2 A67.out).mono ?_
                 (case side1 => repeat (first | exact (Kd.R_reads' HO317.out).2.2 | (with_reducible refine Kd.C_alloc ?_ _) | (with_reducible refine Kd.C_drewN ?_ _) | (with_reducible refine Kd.C_drew ?_)))
                 (case side2 => exact (Kd.R_reads' HO317.out).2.1)
                 rintro e w' ⟨rfl, ⟨nd, rfl⟩⟩
                 refine ⟨_, rfl, ?_⟩
                 refine hK.out _ _ ⟨(blk_cell BK304.out 0).trans rfl, (blk_cell BK304.out 1).trans rfl, (blk_cell BK304.out 2).trans rfl, hHeld.2.2.2.1, hHeld.2.2.2.2.1, hHeld.2.2.2.2.2⟩ (fun hHeld => ?_)
                 clear hK K
                 refine norm_ (a' := ?_) ?_ ?_
                 rotate_left
                 ·show Act.put _ (some 98) _ = _
                  simp only [Act.put, ls1, ls2, ls3, i64_w, i32_w]
                  rfl
                 refine pure_ (i := 30) (N := some 99) (v := ?_) (a' := ?_) (bz 33 2147483647) rfl rfl (any_of HT_.out (by kernel_rfl)) (fun _ _ _ h => h) (Or.inl ⟨by rfl, ?_⟩) ?_ ?_; rotate_left; (intro w'; go_simp; with_reducible rfl); rotate_left; (simp only [Act.put, ls1, ls2, ls3, i64_w, i32_w]; rfl)
                 refine pure_ (i := 31) (N := some 100) (v := ?_) (a' := ?_) (bz 33 4294967295) rfl rfl (any_of HT_.out (by kernel_rfl)) (fun _ _ _ h => h) (Or.inl ⟨by rfl, ?_⟩) ?_ ?_; rotate_left; (intro w'; go_simp; with_reducible rfl); rotate_left; (simp only [Act.put, ls1, ls2, ls3, i64_w, i32_w]; rfl)
                 refine pure_ (i := 32) (N := some 101) (v := ?_) (a' := ?_) (bz 33 8589934591) rfl rfl (any_of HT_.out (by kernel_rfl)) (fun _ _ _ h => h) (Or.inl ⟨by rfl, ?_⟩) ?_ ?_; rotate_left; (intro w'; go_simp; with_reducible rfl); rotate_left; (simp only [Act.put, ls1, ls2, ls3, i64_w, i32_w]; rfl)
                 refine done_ (done_of HT_.out (by kernel_rfl)) ?_
                 try go_wp2
                 go_roundg k3
                 case measure => have := HJ15.out; have := HJ45.out; have := HK3.out; omega
                 case rel => exact ⟨(wrap64 (x9_3 + 1)), (by first | rfl | (simp; done) | (simp [*]; done)), H', ⟨by have := HJ15.out; have := HJ45.out; have := HK3.out; omega⟩, ⟨by (with_reducible repeat (first | apply Kd.R_alloc | apply Kd.R_drewN | apply Kd.R_drew)); exact Kd.R_mono HO_8.out (fun _ hk => ⟨(by first | exact hk.1.1 | exact hk.1.1 | exact hk.1.2.1 | exact hk.1.2.2 | exact hk.2), (by first | exact hk.1.2 | exact hk.1.1 | exact hk.1.2.1 | exact hk.1.2.2 | exact hk.2)⟩)⟩, ⟨by (with_reducible repeat (first | apply Kd.Q_alloc | apply Kd.Q_drewN | apply Kd.Q_drew)); exact Kd.Q_mono HO_292002.out (fun _ hk => ⟨(by first | exact hk.1.1 | exact hk.1.1 | exact hk.1.2.1 | exact hk.1.2.2 | exact hk.2), (by first | exact hk.1.2 | exact hk.1.1 | exact hk.1.2.1 | exact hk.1.2.2 | exact hk.2)⟩)⟩, ⟨by (with_reducible repeat (first | apply Kd.Q_alloc | apply Kd.Q_drewN | apply Kd.Q_drew)); exact Kd.Q_mono HO_305002.out (fun _ hk => ⟨(by first | exact hk.1.1 | exact hk.1.1 | exact hk.1.2.1 | exact hk.1.2.2 | exact hk.2), (by first | exact hk.1.2 | exact hk.1.1 | exact hk.1.2.1 | exact hk.1.2.2 | exact hk.2)⟩)⟩, ⟨by (with_reducible repeat (first | refine blk_drewN ?_ _ | refine blk_drew ?_ | refine blk_alloc ?_ _)); exact BK291.out⟩, ⟨by (with_reducible repeat (first | refine blk_drewN ?_ _ | refine blk_drew ?_ | refine blk_alloc ?_ _)); exact BK304.out⟩, ⟨by repeat (first | (with_reducible first | exact HB.out | apply below_alloc | apply pw_below_drewN | apply below_drew1 | refine below_set ?_ GE291.out | refine below_set ?_ GE304.out) | exact HB.out)⟩⟩
                ·replace c68 := Bool.eq_false_iff.mpr c68
                 subst c68
                 have H1 : (some false) = some r := by rw [if_neg (show ¬ (false = true) by decide)] at H; exact H
                 clear H
                 have H := H1
                 clear H1
                 obtain rfl := Option.some.inj H
                 obtain ⟨Ao76, co76, eo76⟩ := Kd.R_slice HO_8.out
                 subst eo76
                 try go_wp2
                 have n0_ := Aside0.mk (Kd.R_drew HO_8.out)
                 have n1_ := Aside0.mk (Kd.Q_drew HO_292002.out)
                 have n2_ := Aside0.mk (Kd.Q_drew HO_305002.out)
                 have n3_ := Aside0.mk (blk_drew BK291.out)
                 have n4_ := Aside0.mk (blk_drew BK304.out)
                 have n5_ := Aside0.mk (below_drew1 HB.out)
                 clear HO_8
                 clear HO_292002
                 clear HO_305002
                 clear BK291
                 clear BK304
                 clear HB
                 have HO_8 := n0_
                 have HO_292002 := n1_
                 have HO_305002 := n2_
                 have BK291 := n3_
                 have BK304 := n4_
                 have HB := n5_
                 clear n0_ n1_ n2_ n3_ n4_ n5_
                 have p309 : 0 ≤ (x9_3 : Int) := of_decide_eq_true (by first | (with_reducible assumption) | assumption)
                 have q309 : x9_3 < (t305.length : Int) := of_decide_eq_true (by first | (with_reducible assumption) | assumption)
                 obtain ⟨ad309, e309, hx309_0⟩ := Kd.at_int (Kd.R_reads' HO_8.out).2.2 x9_3 p309 q309
                 cases e309
                 replace p309 := eq_true p309
                 replace q309 := eq_true q309
                 have p311 : 0 ≤ (x9_3 : Int) := of_decide_eq_true (by first | (with_reducible assumption) | assumption)
                 have q311 : x9_3 < (t305.length : Int) := of_decide_eq_true (by first | (with_reducible assumption) | assumption)
                 obtain ⟨ad311, e311, hx311_0⟩ := Kd.at_int (Kd.R_reads' HO_8.out).2.2 x9_3 p311 q311
                 obtain rfl : ad309 = ad311 := (by injection e311)
                 replace p311 := eq_true p311
                 replace q311 := eq_true q311
                 have p314 : 0 ≤ (x9_3 : Int) := of_decide_eq_true (by first | (with_reducible assumption) | assumption)
                 have q314 : x9_3 < (t305.length : Int) := of_decide_eq_true (by first | (with_reducible assumption) | assumption)
                 obtain ⟨ad314, e314, hx314_0⟩ := Kd.at_int (Kd.R_reads' HO_8.out).2.2 x9_3 p314 q314
                 obtain rfl : ad309 = ad314 := (by injection e314)
                 replace p314 := eq_true p314
                 replace q314 := eq_true q314
                 refine start_ (n := 33) (S := fun w' => w'.cell? ⟨gb304, 0, none⟩ = some (.int .i64 t298) ∧ w'.cell? ⟨gb304, 1, none⟩ = some (.int .i64 t299) ∧ w'.cell? ⟨gb304, 2, none⟩ = some (.slice Ao51 t300.length co51) ∧ w'.cell? (ad309.add (x9_3).toNat) = some (.int .i64 (rd t305 x9_3)) ∧ w'.cell? (ad309.add (x9_3).toNat) = some (.int .i64 (rd t305 x9_3)) ∧ w'.cell? (ad309.add (x9_3).toNat) = some (.int .i64 (rd t305 x9_3))) (ds := []) (bz 33 0) (by kernel_rfl) rfl rfl ⟨(blk_cell BK304.out 0).trans rfl, (blk_cell BK304.out 1).trans rfl, (blk_cell BK304.out 2).trans rfl, hx309_0, hx311_0, hx314_0⟩ (fun hHeld => ?_); refine with_tabW laws_FnLand.tab15 laws_FnLand.bits15 (fun HT_ HW_ => ?_)
                 generalize wr.drew = w77 at HO_8 HO_292002 HO_305002 BK291 BK304 HB hx309_0 hx311_0 hx314_0 hHeld ⊢
                 refine pure_ (i := 1) (N := some 70) (v := ?_) (a' := ?_) (bz 33 2) rfl rfl (any_of HT_.out (by kernel_rfl)) (fun _ _ _ h => h) (Or.inl ⟨by rfl, ?_⟩) ?_ ?_; rotate_left; (intro w'; go_simp; with_reducible rfl); rotate_left; (simp only [Act.put, ls1, ls2, ls3, i64_w, i32_w]; rfl)
                 refine pure_ (i := 2) (N := some 71) (v := ?_) (a' := ?_) (bz 33 6) rfl rfl (any_of HT_.out (by kernel_rfl)) (fun _ _ _ h => h) (Or.inl ⟨by rfl, ?_⟩) ?_ ?_; rotate_left; (intro w'; go_simp; with_reducible rfl); rotate_left; (simp only [Act.put, ls1, ls2, ls3, i64_w, i32_w]; rfl)
                 refine pure_ (i := 3) (N := some 72) (v := ?_) (a' := ?_) (bz 33 14) rfl rfl (any_of HT_.out (by kernel_rfl)) (fun _ _ _ h => h) (Or.inl ⟨by rfl, ?_⟩) ?_ ?_; rotate_left; (intro w'; go_simp; with_reducible rfl); rotate_left; (simp only [Act.put, ls1, ls2, ls3, i64_w, i32_w]; rfl)
                 refine take_ (i := 0) (N := some 69) (v := ?_) (a' := ?_) (bz 33 15) rfl rfl (take_ofW HT_.out HW_.out (by kernel_rfl)) (fun _ _ _ h => h) (Or.inl ⟨by rfl, ?_⟩) hHeld ?_ ?_; rotate_left; (rintro w' ⟨s0, s1, s2, s3, s4, s5⟩; go_simp; with_reducible rfl); rotate_left; (simp only [Act.put, ls1, ls2, ls3, i64_w, i32_w]; rfl)
                 refine take_ (i := 4) (N := some 73) (v := ?_) (a' := ?_) (bz 33 31) rfl rfl (take_ofW HT_.out HW_.out (by kernel_rfl)) (fun _ _ _ h => h) (Or.inl ⟨by rfl, ?_⟩) hHeld ?_ ?_; rotate_left; (rintro w' ⟨s0, s1, s2, s3, s4, s5⟩; go_simp; with_reducible rfl); rotate_left; (simp only [Act.put, ls1, ls2, ls3, i64_w, i32_w]; rfl)
                 refine one_ (i := 5) (N := some 74) (bz 33 63) rfl rfl (one_of HT_.out (by kernel_rfl)) (by decide) (fun K hK => ?_)
                 refine goes_ Try.func76 (by kernel_rfl) rfl #[.agg #[.int .i64 t298, .int .i64 t299, .slice Ao51 t300.length co51], .int .i64 (rd t305 x9_3)] (by rfl) rfl rfl (by (try simp only [List.map_toArray, List.map_cons, List.map_nil]); first | done | rfl | (simp only [List.length_drop, List.length_take]; rfl)) ?_
                 with_reducible refine (impl_IsOpen.calls k3 t298 t299 _ _ t300 (rd t305 x9_3) true _ ?side1 ?side2 A60.out).mono ?_
                 (case side1 => repeat (first | exact (Kd.Q_reads' HO_305002.out).2.2 | (with_reducible refine Kd.C_alloc ?_ _) | (with_reducible refine Kd.C_drewN ?_ _) | (with_reducible refine Kd.C_drew ?_)))
                 (case side2 => exact (Kd.Q_reads' HO_305002.out).2.1)
                 rintro e w78 ⟨rfl, hb⟩
                 have HS3_ := (hb.cell (World.block_lt_of_cell? _ _ (hHeld.2.2.2.1))).trans (hHeld.2.2.2.1)
                 have HS4_ := (hb.cell (World.block_lt_of_cell? _ _ (hHeld.2.2.2.2.1))).trans (hHeld.2.2.2.2.1)
                 have HS5_ := (hb.cell (World.block_lt_of_cell? _ _ (hHeld.2.2.2.2.2))).trans (hHeld.2.2.2.2.2)
                 refine ⟨_, rfl, ?_⟩
                 have n0_ := Aside0.mk (Kd.R_below (by (with_reducible repeat (first | apply Kd.R_alloc | apply Kd.R_drewN | apply Kd.R_drew)); exact HO_8.out) hb)
                 have n1_ := Aside0.mk (Kd.Q_below (by (with_reducible repeat (first | apply Kd.Q_alloc | apply Kd.Q_drewN | apply Kd.Q_drew)); exact HO_292002.out) hb)
                 have n2_ := Aside0.mk (Kd.Q_below (by (with_reducible repeat (first | apply Kd.Q_alloc | apply Kd.Q_drewN | apply Kd.Q_drew)); exact HO_305002.out) hb)
                 have n3_ := Aside0.mk (blk_below (g := gb291) (o := .cells #[.int .i64 t284, .int .i64 t285, .slice Ao20 t286.length co20] 36 (0, 0)) (by (with_reducible repeat (first | refine blk_drewN ?_ _ | refine blk_drew ?_ | refine blk_alloc ?_ _)); exact BK291.out) hb)
                 have n4_ := Aside0.mk (blk_below (g := gb304) (o := .cells #[.int .i64 t298, .int .i64 t299, .slice Ao51 t300.length co51] 36 (0, 0)) (by (with_reducible repeat (first | refine blk_drewN ?_ _ | refine blk_drew ?_ | refine blk_alloc ?_ _)); exact BK304.out) hb)
                 have n5_ := Aside0.mk (below_step (by repeat (first | (with_reducible first | exact HB.out | apply below_alloc | apply pw_below_drewN | apply below_drew1 | refine below_set ?_ GE291.out | refine below_set ?_ GE304.out) | exact HB.out)) hb)
                 clear HO_8
                 clear HO_292002
                 clear HO_305002
                 clear BK291
                 clear BK304
                 clear HB
                 have HO_8 := n0_
                 have HO_292002 := n1_
                 have HO_305002 := n2_
                 have BK291 := n3_
                 have BK304 := n4_
                 have HB := n5_
                 clear n0_ n1_ n2_ n3_ n4_ n5_
                 (try clear hb)
                 (try clear hb2)
                 (try clear hk)
                 (try clear hi)
                 refine hK.out _ _ ⟨(blk_cell BK304.out 0).trans rfl, (blk_cell BK304.out 1).trans rfl, (blk_cell BK304.out 2).trans rfl, HS3_, HS4_, HS5_⟩ (fun hHeld => ?_)
                 clear hK K
                 refine norm_ (a' := ?_) ?_ ?_
                 rotate_left
                 ·show Act.put _ (some 74) _ = _
                  simp only [Act.put, ls1, ls2, ls3, i64_w, i32_w]
                  rfl
                 refine pure_ (i := 6) (N := some 75) (v := ?_) (a' := ?_) (bz 33 127) rfl rfl (any_of HT_.out (by kernel_rfl)) (fun _ _ _ h => h) (Or.inl ⟨by rfl, ?_⟩) ?_ ?_; rotate_left; (intro w'; go_simp; with_reducible rfl); rotate_left; (simp only [Act.put, ls1, ls2, ls3, i64_w, i32_w]; rfl)
                 refine pure_ (i := 7) (N := some 76) (v := ?_) (a' := ?_) (bz 33 255) rfl rfl (any_of HT_.out (by kernel_rfl)) (fun _ _ _ h => h) (Or.inl ⟨by rfl, ?_⟩) ?_ ?_; rotate_left; (intro w'; go_simp; with_reducible rfl); rotate_left; (simp only [Act.put, ls1, ls2, ls3, i64_w, i32_w]; rfl)
                 refine pure_ (i := 9) (N := some 78) (v := ?_) (a' := ?_) (bz 33 767) rfl rfl (any_of HT_.out (by kernel_rfl)) (fun _ _ _ h => h) (Or.inl ⟨by rfl, ?_⟩) ?_ ?_; rotate_left; (intro w'; go_simp; with_reducible rfl); rotate_left; (simp only [Act.put, ls1, ls2, ls3, i64_w, i32_w]; rfl)
                 refine pure_ (i := 10) (N := some 79) (v := ?_) (a' := ?_) (bz 33 1791) rfl rfl (any_of HT_.out (by kernel_rfl)) (fun _ _ _ h => h) (Or.inl ⟨by rfl, ?_⟩) ?_ ?_; rotate_left; (intro w'; go_simp; with_reducible rfl); rotate_left; (simp only [Act.put, ls1, ls2, ls3, i64_w, i32_w]; rfl)
                 refine pure_ (i := 11) (N := some 80) (v := ?_) (a' := ?_) (bz 33 3839) rfl rfl (any_of HT_.out (by kernel_rfl)) (fun _ _ _ h => h) (Or.inl ⟨by rfl, ?_⟩) ?_ ?_; rotate_left; (intro w'; go_simp; with_reducible rfl); rotate_left; (simp only [Act.put, ls1, ls2, ls3, i64_w, i32_w]; rfl)
                 refine pure_ (i := 12) (N := some 81) (v := ?_) (a' := ?_) (bz 33 7935) rfl rfl (any_of HT_.out (by kernel_rfl)) (fun _ _ _ h => h) (Or.inl ⟨by rfl, ?_⟩) ?_ ?_; rotate_left; (intro w'; go_simp; with_reducible rfl); rotate_left; (simp only [Act.put, ls1, ls2, ls3, i64_w, i32_w]; rfl)
                 refine take_ (i := 8) (N := some 77) (v := ?_) (a' := ?_) (bz 33 8191) rfl rfl (take_ofW HT_.out HW_.out (by kernel_rfl)) (fun _ _ _ h => h) (Or.inl ⟨by rfl, ?_⟩) hHeld ?_ ?_; rotate_left; (rintro w' ⟨s0, s1, s2, s3, s4, s5⟩; go_simp; with_reducible rfl); rotate_left; (simp only [Act.put, ls1, ls2, ls3, i64_w, i32_w]; rfl)
                 refine take_ (i := 13) (N := some 82) (v := ?_) (a' := ?_) (bz 33 16383) rfl rfl (take_ofW HT_.out HW_.out (by kernel_rfl)) (fun _ _ _ h => h) (Or.inl ⟨by rfl, ?_⟩) hHeld ?_ ?_; rotate_left; (rintro w' ⟨s0, s1, s2, s3, s4, s5⟩; go_simp; with_reducible rfl); rotate_left; (simp only [Act.put, ls1, ls2, ls3, i64_w, i32_w]; rfl)
                 refine one_ (i := 14) (N := some 83) (bz 33 32767) rfl rfl (one_of HT_.out (by kernel_rfl)) (by decide) (fun K hK => ?_)
                 refine goes_ Try.func26 (by kernel_rfl) rfl #[.agg #[.int .i64 t298, .int .i64 t299, .slice Ao51 t300.length co51], .int .i64 t303, .int .i64 (rd t305 x9_3)] (by rfl) rfl rfl (by (try simp only [List.map_toArray, List.map_cons, List.map_nil]); first | done | rfl | (simp only [List.length_drop, List.length_take]; rfl)) ?_
                 with_reducible refine (impl_Apart.calls k3 t298 t299 _ _ t300 t303 (rd t305 x9_3) t312 _ ?side1 ?side2 A62.out).mono ?_
                 (case side1 => repeat (first | exact (Kd.Q_reads' HO_305002.out).2.2 | (with_reducible refine Kd.C_alloc ?_ _) | (with_reducible refine Kd.C_drewN ?_ _) | (with_reducible refine Kd.C_drew ?_)))
                 (case side2 => exact (Kd.Q_reads' HO_305002.out).2.1)
                 rintro e w79 ⟨rfl, hb⟩
                 have HS3_ := (hb.cell (World.block_lt_of_cell? _ _ (hHeld.2.2.2.1))).trans (hHeld.2.2.2.1)
                 have HS4_ := (hb.cell (World.block_lt_of_cell? _ _ (hHeld.2.2.2.2.1))).trans (hHeld.2.2.2.2.1)
                 have HS5_ := (hb.cell (World.block_lt_of_cell? _ _ (hHeld.2.2.2.2.2))).trans (hHeld.2.2.2.2.2)
                 refine ⟨_, rfl, ?_⟩
                 have n0_ := Aside0.mk (Kd.R_below (by (with_reducible repeat (first | apply Kd.R_alloc | apply Kd.R_drewN | apply Kd.R_drew)); exact HO_8.out) hb)
                 have n1_ := Aside0.mk (Kd.Q_below (by (with_reducible repeat (first | apply Kd.Q_alloc | apply Kd.Q_drewN | apply Kd.Q_drew)); exact HO_292002.out) hb)
                 have n2_ := Aside0.mk (Kd.Q_below (by (with_reducible repeat (first | apply Kd.Q_alloc | apply Kd.Q_drewN | apply Kd.Q_drew)); exact HO_305002.out) hb)
                 have n3_ := Aside0.mk (blk_below (g := gb291) (o := .cells #[.int .i64 t284, .int .i64 t285, .slice Ao20 t286.length co20] 36 (0, 0)) (by (with_reducible repeat (first | refine blk_drewN ?_ _ | refine blk_drew ?_ | refine blk_alloc ?_ _)); exact BK291.out) hb)
                 have n4_ := Aside0.mk (blk_below (g := gb304) (o := .cells #[.int .i64 t298, .int .i64 t299, .slice Ao51 t300.length co51] 36 (0, 0)) (by (with_reducible repeat (first | refine blk_drewN ?_ _ | refine blk_drew ?_ | refine blk_alloc ?_ _)); exact BK304.out) hb)
                 have n5_ := Aside0.mk (below_step (by repeat (first | (with_reducible first | exact HB.out | apply below_alloc | apply pw_below_drewN | apply below_drew1 | refine below_set ?_ GE291.out | refine below_set ?_ GE304.out) | exact HB.out)) hb)
                 clear HO_8
                 clear HO_292002
                 clear HO_305002
                 clear BK291
                 clear BK304
                 clear HB
                 have HO_8 := n0_
                 have HO_292002 := n1_
                 have HO_305002 := n2_
                 have BK291 := n3_
                 have BK304 := n4_
                 have HB := n5_
                 clear n0_ n1_ n2_ n3_ n4_ n5_
                 (try clear hb)
                 (try clear hb2)
                 (try clear hk)
                 (try clear hi)
                 refine hK.out _ _ ⟨(blk_cell BK304.out 0).trans rfl, (blk_cell BK304.out 1).trans rfl, (blk_cell BK304.out 2).trans rfl, HS3_, HS4_, HS5_⟩ (fun hHeld => ?_)
                 clear hK K
                 refine norm_ (a' := ?_) ?_ ?_
                 rotate_left
                 ·show Act.put _ (some 83) _ = _
                  simp only [Act.put, ls1, ls2, ls3, i64_w, i32_w]
                  rfl
                 refine pure_ (i := 15) (N := some 84) (v := ?_) (a' := ?_) (bz 33 65535) rfl rfl (any_of HT_.out (by kernel_rfl)) (fun _ _ _ h => h) (Or.inl ⟨by rfl, ?_⟩) ?_ ?_; rotate_left; (intro w'; go_simp; with_reducible rfl); rotate_left; (simp only [Act.put, ls1, ls2, ls3, i64_w, i32_w]; rfl)
                 refine pure_ (i := 16) (N := some 85) (v := ?_) (a' := ?_) (bz 33 131071) rfl rfl (any_of HT_.out (by kernel_rfl)) (fun _ _ _ h => h) (Or.inl ⟨by rfl, ?_⟩) ?_ ?_; rotate_left; (intro w'; go_simp; with_reducible rfl); rotate_left; (simp only [Act.put, ls1, ls2, ls3, i64_w, i32_w]; rfl)
                 refine pure_ (i := 17) (N := some 86) (v := ?_) (a' := ?_) (bz 33 262143) rfl rfl (any_of HT_.out (by kernel_rfl)) (fun _ _ _ h => h) (Or.inl ⟨by rfl, ?_⟩) ?_ ?_; rotate_left; (intro w'; go_simp; with_reducible rfl); rotate_left; (simp only [Act.put, ls1, ls2, ls3, i64_w, i32_w]; rfl)
                 refine pure_ (i := 19) (N := some 88) (v := ?_) (a' := ?_) (bz 33 786431) rfl rfl (any_of HT_.out (by kernel_rfl)) (fun _ _ _ h => h) (Or.inl ⟨by rfl, ?_⟩) ?_ ?_; rotate_left; (intro w'; go_simp; with_reducible rfl); rotate_left; (simp only [Act.put, ls1, ls2, ls3, i64_w, i32_w]; rfl)
                 refine take_ (i := 18) (N := some 87) (v := ?_) (a' := ?_) (bz 33 1048575) rfl rfl (take_ofW HT_.out HW_.out (by kernel_rfl)) (fun _ _ _ h => h) (Or.inl ⟨by rfl, ?_⟩) hHeld ?_ ?_; rotate_left; (rintro w' ⟨s0, s1, s2, s3, s4, s5⟩; go_simp; with_reducible rfl); rotate_left; (simp only [Act.put, ls1, ls2, ls3, i64_w, i32_w]; rfl)
                 refine one_ (i := 20) (N := some 89) (bz 33 2097151) rfl rfl (one_of HT_.out (by kernel_rfl)) (by decide) (fun K hK => ?_)
                 refine goes_ Try.func76 (by kernel_rfl) rfl #[.agg #[.int .i64 t298, .int .i64 t299, .slice Ao51 t300.length co51], .int .i64 t303] (by rfl) rfl rfl (by (try simp only [List.map_toArray, List.map_cons, List.map_nil]); first | done | rfl | (simp only [List.length_drop, List.length_take]; rfl)) ?_
                 with_reducible refine (impl_IsOpen.calls k3 t298 t299 _ _ t300 t303 true _ ?side1 ?side2 A64.out).mono ?_
                 (case side1 => repeat (first | exact (Kd.Q_reads' HO_305002.out).2.2 | (with_reducible refine Kd.C_alloc ?_ _) | (with_reducible refine Kd.C_drewN ?_ _) | (with_reducible refine Kd.C_drew ?_)))
                 (case side2 => exact (Kd.Q_reads' HO_305002.out).2.1)
                 rintro e w80 ⟨rfl, hb⟩
                 have HS3_ := (hb.cell (World.block_lt_of_cell? _ _ (hHeld.2.2.2.1))).trans (hHeld.2.2.2.1)
                 have HS4_ := (hb.cell (World.block_lt_of_cell? _ _ (hHeld.2.2.2.2.1))).trans (hHeld.2.2.2.2.1)
                 have HS5_ := (hb.cell (World.block_lt_of_cell? _ _ (hHeld.2.2.2.2.2))).trans (hHeld.2.2.2.2.2)
                 refine ⟨_, rfl, ?_⟩
                 have n0_ := Aside0.mk (Kd.R_below (by (with_reducible repeat (first | apply Kd.R_alloc | apply Kd.R_drewN | apply Kd.R_drew)); exact HO_8.out) hb)
                 have n1_ := Aside0.mk (Kd.Q_below (by (with_reducible repeat (first | apply Kd.Q_alloc | apply Kd.Q_drewN | apply Kd.Q_drew)); exact HO_292002.out) hb)
                 have n2_ := Aside0.mk (Kd.Q_below (by (with_reducible repeat (first | apply Kd.Q_alloc | apply Kd.Q_drewN | apply Kd.Q_drew)); exact HO_305002.out) hb)
                 have n3_ := Aside0.mk (blk_below (g := gb291) (o := .cells #[.int .i64 t284, .int .i64 t285, .slice Ao20 t286.length co20] 36 (0, 0)) (by (with_reducible repeat (first | refine blk_drewN ?_ _ | refine blk_drew ?_ | refine blk_alloc ?_ _)); exact BK291.out) hb)
                 have n4_ := Aside0.mk (blk_below (g := gb304) (o := .cells #[.int .i64 t298, .int .i64 t299, .slice Ao51 t300.length co51] 36 (0, 0)) (by (with_reducible repeat (first | refine blk_drewN ?_ _ | refine blk_drew ?_ | refine blk_alloc ?_ _)); exact BK304.out) hb)
                 have n5_ := Aside0.mk (below_step (by repeat (first | (with_reducible first | exact HB.out | apply below_alloc | apply pw_below_drewN | apply below_drew1 | refine below_set ?_ GE291.out | refine below_set ?_ GE304.out) | exact HB.out)) hb)
                 clear HO_8
                 clear HO_292002
                 clear HO_305002
                 clear BK291
                 clear BK304
                 clear HB
                 have HO_8 := n0_
                 have HO_292002 := n1_
                 have HO_305002 := n2_
                 have BK291 := n3_
                 have BK304 := n4_
                 have HB := n5_
                 clear n0_ n1_ n2_ n3_ n4_ n5_
                 (try clear hb)
                 (try clear hb2)
                 (try clear hk)
                 (try clear hi)
                 refine hK.out _ _ ⟨(blk_cell BK304.out 0).trans rfl, (blk_cell BK304.out 1).trans rfl, (blk_cell BK304.out 2).trans rfl, HS3_, HS4_, HS5_⟩ (fun hHeld => ?_)
                 clear hK K
                 refine norm_ (a' := ?_) ?_ ?_
                 rotate_left
                 ·show Act.put _ (some 89) _ = _
                  simp only [Act.put, ls1, ls2, ls3, i64_w, i32_w]
                  rfl
                 refine pure_ (i := 21) (N := some 90) (v := ?_) (a' := ?_) (bz 33 4194303) rfl rfl (any_of HT_.out (by kernel_rfl)) (fun _ _ _ h => h) (Or.inl ⟨by rfl, ?_⟩) ?_ ?_; rotate_left; (intro w'; go_simp; with_reducible rfl); rotate_left; (simp only [Act.put, ls1, ls2, ls3, i64_w, i32_w]; rfl)
                 refine pure_ (i := 23) (N := some 92) (v := ?_) (a' := ?_) (bz 33 12582911) rfl rfl (any_of HT_.out (by kernel_rfl)) (fun _ _ _ h => h) (Or.inl ⟨by rfl, ?_⟩) ?_ ?_; rotate_left; (intro w'; go_simp; with_reducible rfl); rotate_left; (simp only [Act.put, ls1, ls2, ls3, i64_w, i32_w]; rfl)
                 refine pure_ (i := 24) (N := some 93) (v := ?_) (a' := ?_) (bz 33 29360127) rfl rfl (any_of HT_.out (by kernel_rfl)) (fun _ _ _ h => h) (Or.inl ⟨by rfl, ?_⟩) ?_ ?_; rotate_left; (intro w'; go_simp; with_reducible rfl); rotate_left; (simp only [Act.put, ls1, ls2, ls3, i64_w, i32_w]; rfl)
                 refine pure_ (i := 25) (N := some 94) (v := ?_) (a' := ?_) (bz 33 62914559) rfl rfl (any_of HT_.out (by kernel_rfl)) (fun _ _ _ h => h) (Or.inl ⟨by rfl, ?_⟩) ?_ ?_; rotate_left; (intro w'; go_simp; with_reducible rfl); rotate_left; (simp only [Act.put, ls1, ls2, ls3, i64_w, i32_w]; rfl)
                 refine pure_ (i := 28) (N := some 97) (v := ?_) (a' := ?_) (bz 33 331350015) rfl rfl (any_of HT_.out (by kernel_rfl)) (fun _ _ _ h => h) (Or.inl ⟨by rfl, ?_⟩) ?_ ?_; rotate_left; (intro w'; go_simp; with_reducible rfl); rotate_left; (simp only [Act.put, ls1, ls2, ls3, i64_w, i32_w]; rfl)
                 refine take_ (i := 22) (N := some 91) (v := ?_) (a' := ?_) (bz 33 335544319) rfl rfl (take_ofW HT_.out HW_.out (by kernel_rfl)) (fun _ _ _ h => h) (Or.inl ⟨by rfl, ?_⟩) hHeld ?_ ?_; rotate_left; (rintro w' ⟨s0, s1, s2, s3, s4, s5⟩; go_simp; with_reducible rfl); rotate_left; (simp only [Act.put, ls1, ls2, ls3, i64_w, i32_w]; rfl)
                 refine take_ (i := 26) (N := some 95) (v := ?_) (a' := ?_) (bz 33 402653183) rfl rfl (take_ofW HT_.out HW_.out (by kernel_rfl)) (fun _ _ _ h => h) (Or.inl ⟨by rfl, ?_⟩) hHeld ?_ ?_; rotate_left; (rintro w' ⟨s0, s1, s2, s3, s4, s5⟩; go_simp; with_reducible rfl); rotate_left; (simp only [Act.put, ls1, ls2, ls3, i64_w, i32_w]; rfl)
                 refine one_ (i := 27) (N := some 96) (bz 33 536870911) rfl rfl (one_of HT_.out (by kernel_rfl)) (by decide) (fun K hK => ?_)
                 refine goes_ Try.func69 (by kernel_rfl) rfl #[.agg #[.int .i64 t298, .int .i64 t299, .slice Ao51 t300.length co51], .int .i64 (rd t305 x9_3)] (by rfl) rfl rfl (by (try simp only [List.map_toArray, List.map_cons, List.map_nil]); first | done | rfl | (simp only [List.length_drop, List.length_take]; rfl)) ?_
                 with_reducible refine (impl_Near.calls k3 t298 t299 _ _ t300 (rd t305 x9_3) t315 _ ?side1 ?side2 A66.out).mono ?_
                 (case side1 => repeat (first | exact (Kd.Q_reads' HO_305002.out).2.2 | (with_reducible refine Kd.C_alloc ?_ _) | (with_reducible refine Kd.C_drewN ?_ _) | (with_reducible refine Kd.C_drew ?_)))
                 (case side2 => exact (Kd.Q_reads' HO_305002.out).2.1)
                 rintro e w81 ⟨v316, rfl, ho0, hb⟩
                 have HS3_ := (hb.cell (World.block_lt_of_cell? _ _ (hHeld.2.2.2.1))).trans (hHeld.2.2.2.1)
                 have HS4_ := (hb.cell (World.block_lt_of_cell? _ _ (hHeld.2.2.2.2.1))).trans (hHeld.2.2.2.2.1)
                 have HS5_ := (hb.cell (World.block_lt_of_cell? _ _ (hHeld.2.2.2.2.2))).trans (hHeld.2.2.2.2.2)
                 refine ⟨_, rfl, ?_⟩
                 have n0_ := Aside0.mk (Kd.R_elder' (by (with_reducible repeat (first | apply Kd.R_alloc | apply Kd.R_drewN | apply Kd.R_drew)); exact HO_8.out) (Kd.R_base ho0) hb)
                 have n1_ := Aside0.mk (Kd.Q_elder' (by (with_reducible repeat (first | apply Kd.Q_alloc | apply Kd.Q_drewN | apply Kd.Q_drew)); exact HO_292002.out) (Kd.R_base ho0) hb)
                 have n2_ := Aside0.mk (Kd.Q_elder' (by (with_reducible repeat (first | apply Kd.Q_alloc | apply Kd.Q_drewN | apply Kd.Q_drew)); exact HO_305002.out) (Kd.R_base ho0) hb)
                 have n3_ := Aside0.mk (Kd.R_lower (Kd.R_new' (Kd.R_new' (Kd.R_new' ho0 (Kd.R_lt (by (with_reducible repeat (first | apply Kd.R_alloc | apply Kd.R_drewN | apply Kd.R_drew)); exact HO_8.out))) (Kd.Q_lt (by (with_reducible repeat (first | apply Kd.Q_alloc | apply Kd.Q_drewN | apply Kd.Q_drew)); exact HO_292002.out))) (Kd.Q_lt (by (with_reducible repeat (first | apply Kd.Q_alloc | apply Kd.Q_drewN | apply Kd.Q_drew)); exact HO_305002.out))) (below_size (by repeat (first | (with_reducible first | exact HB.out | apply below_alloc | apply pw_below_drewN | apply below_drew1 | refine below_set ?_ GE291.out | refine below_set ?_ GE304.out) | exact HB.out))))
                 have n4_ := Aside0.mk (blk_below (g := gb291) (o := .cells #[.int .i64 t284, .int .i64 t285, .slice Ao20 t286.length co20] 36 (0, 0)) (by (with_reducible repeat (first | refine blk_drewN ?_ _ | refine blk_drew ?_ | refine blk_alloc ?_ _)); exact BK291.out) hb)
                 have n5_ := Aside0.mk (blk_below (g := gb304) (o := .cells #[.int .i64 t298, .int .i64 t299, .slice Ao51 t300.length co51] 36 (0, 0)) (by (with_reducible repeat (first | refine blk_drewN ?_ _ | refine blk_drew ?_ | refine blk_alloc ?_ _)); exact BK304.out) hb)
                 have n6_ := Aside0.mk (below_step (by repeat (first | (with_reducible first | exact HB.out | apply below_alloc | apply pw_below_drewN | apply below_drew1 | refine below_set ?_ GE291.out | refine below_set ?_ GE304.out) | exact HB.out)) hb)
                 clear HO_8
                 clear HO_292002
                 clear HO_305002
                 clear BK291
                 clear BK304
                 clear HB
                 have HO_8 := n0_
                 have HO_292002 := n1_
                 have HO_305002 := n2_
                 have HO317 := n3_
                 have BK291 := n4_
                 have BK304 := n5_
                 have HB := n6_
                 clear n0_ n1_ n2_ n3_ n4_ n5_ n6_
                 (try clear hb)
                 (try clear hb2)
                 (try clear hk)
                 (try clear hi)
                 (try clear ho0)
                 obtain ⟨Ao82, co82, eo82⟩ := Kd.R_slice HO317.out
                 (first | subst eo82 | (injection eo82 with f1_ f2_ f3_; have f4_ := f1_.symm; have f5_ := f3_.symm; clear f1_ f2_ f3_; subst f4_; subst f5_))
                 refine hK.out _ _ ⟨(blk_cell BK304.out 0).trans rfl, (blk_cell BK304.out 1).trans rfl, (blk_cell BK304.out 2).trans rfl, HS3_, HS4_, HS5_⟩ (fun hHeld => ?_)
                 clear hK K
                 refine norm_ (a' := ?_) ?_ ?_
                 rotate_left
                 ·show Act.put _ (some 96) _ = _
                  simp only [Act.put, ls1, ls2, ls3, i64_w, i32_w]
                  rfl
                 refine one_ (i := 29) (N := some 98) (bz 33 1073741823) rfl rfl (one_of HT_.out (by kernel_rfl)) (by decide) (fun K hK => ?_)
                 refine goes_ Try.func77 (by kernel_rfl) rfl #[.slice Ao82 t315.length co82, .int .i64 t303] (by rfl) rfl rfl (by (try simp only [List.map_toArray, List.map_cons, List.map_nil]); first | done | rfl | (simp only [List.length_drop, List.length_take]; rfl)) ?_
                 with_reducible refine (laws_contains.calls k3 _ _ t315 t303 false _ ?side1 ?side2 A67.out).mono ?_
                 (case side1 => repeat (first | exact (Kd.R_reads' HO317.out).2.2 | (with_reducible refine Kd.C_alloc ?_ _) | (with_reducible refine Kd.C_drewN ?_ _) | (with_reducible refine Kd.C_drew ?_)))
                 (case side2 => exact (Kd.R_reads' HO317.out).2.1)
                 rintro e w' ⟨rfl, ⟨nd, rfl⟩⟩
                 refine ⟨_, rfl, ?_⟩
                 refine hK.out _ _ ⟨(blk_cell BK304.out 0).trans rfl, (blk_cell BK304.out 1).trans rfl, (blk_cell BK304.out 2).trans rfl, hHeld.2.2.2.1, hHeld.2.2.2.2.1, hHeld.2.2.2.2.2⟩ (fun hHeld => ?_)
                 clear hK K
                 refine norm_ (a' := ?_) ?_ ?_
                 rotate_left
                 ·show Act.put _ (some 98) _ = _
                  simp only [Act.put, ls1, ls2, ls3, i64_w, i32_w]
                  rfl
                 refine pure_ (i := 30) (N := some 99) (v := ?_) (a' := ?_) (bz 33 2147483647) rfl rfl (any_of HT_.out (by kernel_rfl)) (fun _ _ _ h => h) (Or.inl ⟨by rfl, ?_⟩) ?_ ?_; rotate_left; (intro w'; go_simp; with_reducible rfl); rotate_left; (simp only [Act.put, ls1, ls2, ls3, i64_w, i32_w]; rfl)
                 refine pure_ (i := 31) (N := some 100) (v := ?_) (a' := ?_) (bz 33 4294967295) rfl rfl (any_of HT_.out (by kernel_rfl)) (fun _ _ _ h => h) (Or.inl ⟨by rfl, ?_⟩) ?_ ?_; rotate_left; (intro w'; go_simp; with_reducible rfl); rotate_left; (simp only [Act.put, ls1, ls2, ls3, i64_w, i32_w]; rfl)
                 refine pure_ (i := 32) (N := some 101) (v := ?_) (a' := ?_) (bz 33 8589934591) rfl rfl (any_of HT_.out (by kernel_rfl)) (fun _ _ _ h => h) (Or.inl ⟨by rfl, ?_⟩) ?_ ?_; rotate_left; (intro w'; go_simp; with_reducible rfl); rotate_left; (simp only [Act.put, ls1, ls2, ls3, i64_w, i32_w]; rfl)
                 refine done_ (done_of HT_.out (by kernel_rfl)) ?_
                 try go_wp2
                 go_ret
                 exact ⟨by first | rfl | (simp [errW_none, errW_some] <;> rfl) | (simp [*, errW_none, errW_some] <;> rfl), by repeat (first | (with_reducible first | exact HB.out | apply below_alloc | apply pw_below_drewN | apply below_drew1 | refine below_set ?_ GE291.out | refine below_set ?_ GE304.out) | exact HB.out)⟩
               ·replace c65 := Bool.eq_false_iff.mpr c65
                subst c65
                have H1 : (laws_FnLand.l0 k3 l0 t303 t305 (wrap64 (x9_3 + 1)) t298 t299 t300) = some r := by rw [if_neg (show ¬ (false = true) by decide)] at H; exact H
                clear H
                have H := H1
                clear H1
                have H' := Aside0.mk H
                clear H
                obtain ⟨Ao83, co83, eo83⟩ := Kd.R_slice HO_8.out
                subst eo83
                try go_wp2
                have n0_ := Aside0.mk (Kd.R_drew HO_8.out)
                have n1_ := Aside0.mk (Kd.Q_drew HO_292002.out)
                have n2_ := Aside0.mk (Kd.Q_drew HO_305002.out)
                have n3_ := Aside0.mk (blk_drew BK291.out)
                have n4_ := Aside0.mk (blk_drew BK304.out)
                have n5_ := Aside0.mk (below_drew1 HB.out)
                clear HO_8
                clear HO_292002
                clear HO_305002
                clear BK291
                clear BK304
                clear HB
                have HO_8 := n0_
                have HO_292002 := n1_
                have HO_305002 := n2_
                have BK291 := n3_
                have BK304 := n4_
                have HB := n5_
                clear n0_ n1_ n2_ n3_ n4_ n5_
                have p309 : 0 ≤ (x9_3 : Int) := of_decide_eq_true (by first | (with_reducible assumption) | assumption)
                have q309 : x9_3 < (t305.length : Int) := of_decide_eq_true (by first | (with_reducible assumption) | assumption)
                obtain ⟨ad309, e309, hx309_0⟩ := Kd.at_int (Kd.R_reads' HO_8.out).2.2 x9_3 p309 q309
                cases e309
                replace p309 := eq_true p309
                replace q309 := eq_true q309
                have p311 : 0 ≤ (x9_3 : Int) := of_decide_eq_true (by first | (with_reducible assumption) | assumption)
                have q311 : x9_3 < (t305.length : Int) := of_decide_eq_true (by first | (with_reducible assumption) | assumption)
                obtain ⟨ad311, e311, hx311_0⟩ := Kd.at_int (Kd.R_reads' HO_8.out).2.2 x9_3 p311 q311
                obtain rfl : ad309 = ad311 := (by injection e311)
                replace p311 := eq_true p311
                replace q311 := eq_true q311
                refine start_ (n := 33) (S := fun w' => w'.cell? ⟨gb304, 0, none⟩ = some (.int .i64 t298) ∧ w'.cell? ⟨gb304, 1, none⟩ = some (.int .i64 t299) ∧ w'.cell? ⟨gb304, 2, none⟩ = some (.slice Ao51 t300.length co51) ∧ w'.cell? (ad309.add (x9_3).toNat) = some (.int .i64 (rd t305 x9_3)) ∧ w'.cell? (ad309.add (x9_3).toNat) = some (.int .i64 (rd t305 x9_3))) (ds := []) (bz 33 0) (by kernel_rfl) rfl rfl ⟨(blk_cell BK304.out 0).trans rfl, (blk_cell BK304.out 1).trans rfl, (blk_cell BK304.out 2).trans rfl, hx309_0, hx311_0⟩ (fun hHeld => ?_); refine with_tabW laws_FnLand.tab15 laws_FnLand.bits15 (fun HT_ HW_ => ?_)
                generalize wr.drew = w84 at HO_8 HO_292002 HO_305002 BK291 BK304 HB hx309_0 hx311_0 hHeld ⊢
                refine pure_ (i := 1) (N := some 70) (v := ?_) (a' := ?_) (bz 33 2) rfl rfl (any_of HT_.out (by kernel_rfl)) (fun _ _ _ h => h) (Or.inl ⟨by rfl, ?_⟩) ?_ ?_; rotate_left; (intro w'; go_simp; with_reducible rfl); rotate_left; (simp only [Act.put, ls1, ls2, ls3, i64_w, i32_w]; rfl)
                refine pure_ (i := 2) (N := some 71) (v := ?_) (a' := ?_) (bz 33 6) rfl rfl (any_of HT_.out (by kernel_rfl)) (fun _ _ _ h => h) (Or.inl ⟨by rfl, ?_⟩) ?_ ?_; rotate_left; (intro w'; go_simp; with_reducible rfl); rotate_left; (simp only [Act.put, ls1, ls2, ls3, i64_w, i32_w]; rfl)
                refine pure_ (i := 3) (N := some 72) (v := ?_) (a' := ?_) (bz 33 14) rfl rfl (any_of HT_.out (by kernel_rfl)) (fun _ _ _ h => h) (Or.inl ⟨by rfl, ?_⟩) ?_ ?_; rotate_left; (intro w'; go_simp; with_reducible rfl); rotate_left; (simp only [Act.put, ls1, ls2, ls3, i64_w, i32_w]; rfl)
                refine take_ (i := 0) (N := some 69) (v := ?_) (a' := ?_) (bz 33 15) rfl rfl (take_ofW HT_.out HW_.out (by kernel_rfl)) (fun _ _ _ h => h) (Or.inl ⟨by rfl, ?_⟩) hHeld ?_ ?_; rotate_left; (rintro w' ⟨s0, s1, s2, s3, s4⟩; go_simp; with_reducible rfl); rotate_left; (simp only [Act.put, ls1, ls2, ls3, i64_w, i32_w]; rfl)
                refine take_ (i := 4) (N := some 73) (v := ?_) (a' := ?_) (bz 33 31) rfl rfl (take_ofW HT_.out HW_.out (by kernel_rfl)) (fun _ _ _ h => h) (Or.inl ⟨by rfl, ?_⟩) hHeld ?_ ?_; rotate_left; (rintro w' ⟨s0, s1, s2, s3, s4⟩; go_simp; with_reducible rfl); rotate_left; (simp only [Act.put, ls1, ls2, ls3, i64_w, i32_w]; rfl)
                refine one_ (i := 5) (N := some 74) (bz 33 63) rfl rfl (one_of HT_.out (by kernel_rfl)) (by decide) (fun K hK => ?_)
                refine goes_ Try.func76 (by kernel_rfl) rfl #[.agg #[.int .i64 t298, .int .i64 t299, .slice Ao51 t300.length co51], .int .i64 (rd t305 x9_3)] (by rfl) rfl rfl (by (try simp only [List.map_toArray, List.map_cons, List.map_nil]); first | done | rfl | (simp only [List.length_drop, List.length_take]; rfl)) ?_
                with_reducible refine (impl_IsOpen.calls k3 t298 t299 _ _ t300 (rd t305 x9_3) true _ ?side1 ?side2 A60.out).mono ?_
                (case side1 => repeat (first | exact (Kd.Q_reads' HO_305002.out).2.2 | (with_reducible refine Kd.C_alloc ?_ _) | (with_reducible refine Kd.C_drewN ?_ _) | (with_reducible refine Kd.C_drew ?_)))
                (case side2 => exact (Kd.Q_reads' HO_305002.out).2.1)
                rintro e w85 ⟨rfl, hb⟩
                have HS3_ := (hb.cell (World.block_lt_of_cell? _ _ (hHeld.2.2.2.1))).trans (hHeld.2.2.2.1)
                have HS4_ := (hb.cell (World.block_lt_of_cell? _ _ (hHeld.2.2.2.2))).trans (hHeld.2.2.2.2)
                refine ⟨_, rfl, ?_⟩
                have n0_ := Aside0.mk (Kd.R_below (by (with_reducible repeat (first | apply Kd.R_alloc | apply Kd.R_drewN | apply Kd.R_drew)); exact HO_8.out) hb)
                have n1_ := Aside0.mk (Kd.Q_below (by (with_reducible repeat (first | apply Kd.Q_alloc | apply Kd.Q_drewN | apply Kd.Q_drew)); exact HO_292002.out) hb)
                have n2_ := Aside0.mk (Kd.Q_below (by (with_reducible repeat (first | apply Kd.Q_alloc | apply Kd.Q_drewN | apply Kd.Q_drew)); exact HO_305002.out) hb)
                have n3_ := Aside0.mk (blk_below (g := gb291) (o := .cells #[.int .i64 t284, .int .i64 t285, .slice Ao20 t286.length co20] 36 (0, 0)) (by (with_reducible repeat (first | refine blk_drewN ?_ _ | refine blk_drew ?_ | refine blk_alloc ?_ _)); exact BK291.out) hb)
                have n4_ := Aside0.mk (blk_below (g := gb304) (o := .cells #[.int .i64 t298, .int .i64 t299, .slice Ao51 t300.length co51] 36 (0, 0)) (by (with_reducible repeat (first | refine blk_drewN ?_ _ | refine blk_drew ?_ | refine blk_alloc ?_ _)); exact BK304.out) hb)
                have n5_ := Aside0.mk (below_step (by repeat (first | (with_reducible first | exact HB.out | apply below_alloc | apply pw_below_drewN | apply below_drew1 | refine below_set ?_ GE291.out | refine below_set ?_ GE304.out) | exact HB.out)) hb)
                clear HO_8
                clear HO_292002
                clear HO_305002
                clear BK291
                clear BK304
                clear HB
                have HO_8 := n0_
                have HO_292002 := n1_
                have HO_305002 := n2_
                have BK291 := n3_
                have BK304 := n4_
                have HB := n5_
                clear n0_ n1_ n2_ n3_ n4_ n5_
                (try clear hb)
                (try clear hb2)
                (try clear hk)
                (try clear hi)
                refine hK.out _ _ ⟨(blk_cell BK304.out 0).trans rfl, (blk_cell BK304.out 1).trans rfl, (blk_cell BK304.out 2).trans rfl, HS3_, HS4_⟩ (fun hHeld => ?_)
                clear hK K
                refine norm_ (a' := ?_) ?_ ?_
                rotate_left
                ·show Act.put _ (some 74) _ = _
                 simp only [Act.put, ls1, ls2, ls3, i64_w, i32_w]
                 rfl
                refine pure_ (i := 6) (N := some 75) (v := ?_) (a' := ?_) (bz 33 127) rfl rfl (any_of HT_.out (by kernel_rfl)) (fun _ _ _ h => h) (Or.inl ⟨by rfl, ?_⟩) ?_ ?_; rotate_left; (intro w'; go_simp; with_reducible rfl); rotate_left; (simp only [Act.put, ls1, ls2, ls3, i64_w, i32_w]; rfl)
                refine pure_ (i := 7) (N := some 76) (v := ?_) (a' := ?_) (bz 33 255) rfl rfl (any_of HT_.out (by kernel_rfl)) (fun _ _ _ h => h) (Or.inl ⟨by rfl, ?_⟩) ?_ ?_; rotate_left; (intro w'; go_simp; with_reducible rfl); rotate_left; (simp only [Act.put, ls1, ls2, ls3, i64_w, i32_w]; rfl)
                refine pure_ (i := 9) (N := some 78) (v := ?_) (a' := ?_) (bz 33 767) rfl rfl (any_of HT_.out (by kernel_rfl)) (fun _ _ _ h => h) (Or.inl ⟨by rfl, ?_⟩) ?_ ?_; rotate_left; (intro w'; go_simp; with_reducible rfl); rotate_left; (simp only [Act.put, ls1, ls2, ls3, i64_w, i32_w]; rfl)
                refine pure_ (i := 10) (N := some 79) (v := ?_) (a' := ?_) (bz 33 1791) rfl rfl (any_of HT_.out (by kernel_rfl)) (fun _ _ _ h => h) (Or.inl ⟨by rfl, ?_⟩) ?_ ?_; rotate_left; (intro w'; go_simp; with_reducible rfl); rotate_left; (simp only [Act.put, ls1, ls2, ls3, i64_w, i32_w]; rfl)
                refine pure_ (i := 11) (N := some 80) (v := ?_) (a' := ?_) (bz 33 3839) rfl rfl (any_of HT_.out (by kernel_rfl)) (fun _ _ _ h => h) (Or.inl ⟨by rfl, ?_⟩) ?_ ?_; rotate_left; (intro w'; go_simp; with_reducible rfl); rotate_left; (simp only [Act.put, ls1, ls2, ls3, i64_w, i32_w]; rfl)
                refine pure_ (i := 12) (N := some 81) (v := ?_) (a' := ?_) (bz 33 7935) rfl rfl (any_of HT_.out (by kernel_rfl)) (fun _ _ _ h => h) (Or.inl ⟨by rfl, ?_⟩) ?_ ?_; rotate_left; (intro w'; go_simp; with_reducible rfl); rotate_left; (simp only [Act.put, ls1, ls2, ls3, i64_w, i32_w]; rfl)
                refine take_ (i := 8) (N := some 77) (v := ?_) (a' := ?_) (bz 33 8191) rfl rfl (take_ofW HT_.out HW_.out (by kernel_rfl)) (fun _ _ _ h => h) (Or.inl ⟨by rfl, ?_⟩) hHeld ?_ ?_; rotate_left; (rintro w' ⟨s0, s1, s2, s3, s4⟩; go_simp; with_reducible rfl); rotate_left; (simp only [Act.put, ls1, ls2, ls3, i64_w, i32_w]; rfl)
                refine take_ (i := 13) (N := some 82) (v := ?_) (a' := ?_) (bz 33 16383) rfl rfl (take_ofW HT_.out HW_.out (by kernel_rfl)) (fun _ _ _ h => h) (Or.inl ⟨by rfl, ?_⟩) hHeld ?_ ?_; rotate_left; (rintro w' ⟨s0, s1, s2, s3, s4⟩; go_simp; with_reducible rfl); rotate_left; (simp only [Act.put, ls1, ls2, ls3, i64_w, i32_w]; rfl)
                refine one_ (i := 14) (N := some 83) (bz 33 32767) rfl rfl (one_of HT_.out (by kernel_rfl)) (by decide) (fun K hK => ?_)
                refine goes_ Try.func26 (by kernel_rfl) rfl #[.agg #[.int .i64 t298, .int .i64 t299, .slice Ao51 t300.length co51], .int .i64 t303, .int .i64 (rd t305 x9_3)] (by rfl) rfl rfl (by (try simp only [List.map_toArray, List.map_cons, List.map_nil]); first | done | rfl | (simp only [List.length_drop, List.length_take]; rfl)) ?_
                with_reducible refine (impl_Apart.calls k3 t298 t299 _ _ t300 t303 (rd t305 x9_3) t312 _ ?side1 ?side2 A62.out).mono ?_
                (case side1 => repeat (first | exact (Kd.Q_reads' HO_305002.out).2.2 | (with_reducible refine Kd.C_alloc ?_ _) | (with_reducible refine Kd.C_drewN ?_ _) | (with_reducible refine Kd.C_drew ?_)))
                (case side2 => exact (Kd.Q_reads' HO_305002.out).2.1)
                rintro e w86 ⟨rfl, hb⟩
                have HS3_ := (hb.cell (World.block_lt_of_cell? _ _ (hHeld.2.2.2.1))).trans (hHeld.2.2.2.1)
                have HS4_ := (hb.cell (World.block_lt_of_cell? _ _ (hHeld.2.2.2.2))).trans (hHeld.2.2.2.2)
                refine ⟨_, rfl, ?_⟩
                have n0_ := Aside0.mk (Kd.R_below (by (with_reducible repeat (first | apply Kd.R_alloc | apply Kd.R_drewN | apply Kd.R_drew)); exact HO_8.out) hb)
                have n1_ := Aside0.mk (Kd.Q_below (by (with_reducible repeat (first | apply Kd.Q_alloc | apply Kd.Q_drewN | apply Kd.Q_drew)); exact HO_292002.out) hb)
                have n2_ := Aside0.mk (Kd.Q_below (by (with_reducible repeat (first | apply Kd.Q_alloc | apply Kd.Q_drewN | apply Kd.Q_drew)); exact HO_305002.out) hb)
                have n3_ := Aside0.mk (blk_below (g := gb291) (o := .cells #[.int .i64 t284, .int .i64 t285, .slice Ao20 t286.length co20] 36 (0, 0)) (by (with_reducible repeat (first | refine blk_drewN ?_ _ | refine blk_drew ?_ | refine blk_alloc ?_ _)); exact BK291.out) hb)
                have n4_ := Aside0.mk (blk_below (g := gb304) (o := .cells #[.int .i64 t298, .int .i64 t299, .slice Ao51 t300.length co51] 36 (0, 0)) (by (with_reducible repeat (first | refine blk_drewN ?_ _ | refine blk_drew ?_ | refine blk_alloc ?_ _)); exact BK304.out) hb)
                have n5_ := Aside0.mk (below_step (by repeat (first | (with_reducible first | exact HB.out | apply below_alloc | apply pw_below_drewN | apply below_drew1 | refine below_set ?_ GE291.out | refine below_set ?_ GE304.out) | exact HB.out)) hb)
                clear HO_8
                clear HO_292002
                clear HO_305002
                clear BK291
                clear BK304
                clear HB
                have HO_8 := n0_
                have HO_292002 := n1_
                have HO_305002 := n2_
                have BK291 := n3_
                have BK304 := n4_
                have HB := n5_
                clear n0_ n1_ n2_ n3_ n4_ n5_
                (try clear hb)
                (try clear hb2)
                (try clear hk)
                (try clear hi)
                refine hK.out _ _ ⟨(blk_cell BK304.out 0).trans rfl, (blk_cell BK304.out 1).trans rfl, (blk_cell BK304.out 2).trans rfl, HS3_, HS4_⟩ (fun hHeld => ?_)
                clear hK K
                refine norm_ (a' := ?_) ?_ ?_
                rotate_left
                ·show Act.put _ (some 83) _ = _
                 simp only [Act.put, ls1, ls2, ls3, i64_w, i32_w]
                 rfl
                refine pure_ (i := 15) (N := some 84) (v := ?_) (a' := ?_) (bz 33 65535) rfl rfl (any_of HT_.out (by kernel_rfl)) (fun _ _ _ h => h) (Or.inl ⟨by rfl, ?_⟩) ?_ ?_; rotate_left; (intro w'; go_simp; with_reducible rfl); rotate_left; (simp only [Act.put, ls1, ls2, ls3, i64_w, i32_w]; rfl)
                refine pure_ (i := 16) (N := some 85) (v := ?_) (a' := ?_) (bz 33 131071) rfl rfl (any_of HT_.out (by kernel_rfl)) (fun _ _ _ h => h) (Or.inl ⟨by rfl, ?_⟩) ?_ ?_; rotate_left; (intro w'; go_simp; with_reducible rfl); rotate_left; (simp only [Act.put, ls1, ls2, ls3, i64_w, i32_w]; rfl)
                refine pure_ (i := 17) (N := some 86) (v := ?_) (a' := ?_) (bz 33 262143) rfl rfl (any_of HT_.out (by kernel_rfl)) (fun _ _ _ h => h) (Or.inl ⟨by rfl, ?_⟩) ?_ ?_; rotate_left; (intro w'; go_simp; with_reducible rfl); rotate_left; (simp only [Act.put, ls1, ls2, ls3, i64_w, i32_w]; rfl)
                refine pure_ (i := 19) (N := some 88) (v := ?_) (a' := ?_) (bz 33 786431) rfl rfl (any_of HT_.out (by kernel_rfl)) (fun _ _ _ h => h) (Or.inl ⟨by rfl, ?_⟩) ?_ ?_; rotate_left; (intro w'; go_simp; with_reducible rfl); rotate_left; (simp only [Act.put, ls1, ls2, ls3, i64_w, i32_w]; rfl)
                refine take_ (i := 18) (N := some 87) (v := ?_) (a' := ?_) (bz 33 1048575) rfl rfl (take_ofW HT_.out HW_.out (by kernel_rfl)) (fun _ _ _ h => h) (Or.inl ⟨by rfl, ?_⟩) hHeld ?_ ?_; rotate_left; (rintro w' ⟨s0, s1, s2, s3, s4⟩; go_simp; with_reducible rfl); rotate_left; (simp only [Act.put, ls1, ls2, ls3, i64_w, i32_w]; rfl)
                refine one_ (i := 20) (N := some 89) (bz 33 2097151) rfl rfl (one_of HT_.out (by kernel_rfl)) (by decide) (fun K hK => ?_)
                refine goes_ Try.func76 (by kernel_rfl) rfl #[.agg #[.int .i64 t298, .int .i64 t299, .slice Ao51 t300.length co51], .int .i64 t303] (by rfl) rfl rfl (by (try simp only [List.map_toArray, List.map_cons, List.map_nil]); first | done | rfl | (simp only [List.length_drop, List.length_take]; rfl)) ?_
                with_reducible refine (impl_IsOpen.calls k3 t298 t299 _ _ t300 t303 false _ ?side1 ?side2 A64.out).mono ?_
                (case side1 => repeat (first | exact (Kd.Q_reads' HO_305002.out).2.2 | (with_reducible refine Kd.C_alloc ?_ _) | (with_reducible refine Kd.C_drewN ?_ _) | (with_reducible refine Kd.C_drew ?_)))
                (case side2 => exact (Kd.Q_reads' HO_305002.out).2.1)
                rintro e w87 ⟨rfl, hb⟩
                have HS3_ := (hb.cell (World.block_lt_of_cell? _ _ (hHeld.2.2.2.1))).trans (hHeld.2.2.2.1)
                have HS4_ := (hb.cell (World.block_lt_of_cell? _ _ (hHeld.2.2.2.2))).trans (hHeld.2.2.2.2)
                refine ⟨_, rfl, ?_⟩
                have n0_ := Aside0.mk (Kd.R_below (by (with_reducible repeat (first | apply Kd.R_alloc | apply Kd.R_drewN | apply Kd.R_drew)); exact HO_8.out) hb)
                have n1_ := Aside0.mk (Kd.Q_below (by (with_reducible repeat (first | apply Kd.Q_alloc | apply Kd.Q_drewN | apply Kd.Q_drew)); exact HO_292002.out) hb)
                have n2_ := Aside0.mk (Kd.Q_below (by (with_reducible repeat (first | apply Kd.Q_alloc | apply Kd.Q_drewN | apply Kd.Q_drew)); exact HO_305002.out) hb)
                have n3_ := Aside0.mk (blk_below (g := gb291) (o := .cells #[.int .i64 t284, .int .i64 t285, .slice Ao20 t286.length co20] 36 (0, 0)) (by (with_reducible repeat (first | refine blk_drewN ?_ _ | refine blk_drew ?_ | refine blk_alloc ?_ _)); exact BK291.out) hb)
                have n4_ := Aside0.mk (blk_below (g := gb304) (o := .cells #[.int .i64 t298, .int .i64 t299, .slice Ao51 t300.length co51] 36 (0, 0)) (by (with_reducible repeat (first | refine blk_drewN ?_ _ | refine blk_drew ?_ | refine blk_alloc ?_ _)); exact BK304.out) hb)
                have n5_ := Aside0.mk (below_step (by repeat (first | (with_reducible first | exact HB.out | apply below_alloc | apply pw_below_drewN | apply below_drew1 | refine below_set ?_ GE291.out | refine below_set ?_ GE304.out) | exact HB.out)) hb)
                clear HO_8
                clear HO_292002
                clear HO_305002
                clear BK291
                clear BK304
                clear HB
                have HO_8 := n0_
                have HO_292002 := n1_
                have HO_305002 := n2_
                have BK291 := n3_
                have BK304 := n4_
                have HB := n5_
                clear n0_ n1_ n2_ n3_ n4_ n5_
                (try clear hb)
                (try clear hb2)
                (try clear hk)
                (try clear hi)
                refine hK.out _ _ ⟨(blk_cell BK304.out 0).trans rfl, (blk_cell BK304.out 1).trans rfl, (blk_cell BK304.out 2).trans rfl, HS3_, HS4_⟩ (fun hHeld => ?_)
                clear hK K
                refine norm_ (a' := ?_) ?_ ?_
                rotate_left
                ·show Act.put _ (some 89) _ = _
                 simp only [Act.put, ls1, ls2, ls3, i64_w, i32_w]
                 rfl
                refine pure_ (i := 21) (N := some 90) (v := ?_) (a' := ?_) (bz 33 4194303) rfl rfl (any_of HT_.out (by kernel_rfl)) (fun _ _ _ h => h) (Or.inl ⟨by rfl, ?_⟩) ?_ ?_; rotate_left; (intro w'; go_simp; with_reducible rfl); rotate_left; (simp only [Act.put, ls1, ls2, ls3, i64_w, i32_w]; rfl)
                refine pure_ (i := 22) (N := some 91) (v := undef) (a' := ?_) (bz 33 8388607) rfl rfl (any_of HT_.out (by kernel_rfl)) (fun _ _ _ h => h) (Or.inr ⟨by rfl, rfl⟩) ?_ ?_
                rotate_left
                ·simp only [Act.put, ls1, ls2, ls3, i64_w, i32_w]
                 rfl
                refine pure_ (i := 23) (N := some 92) (v := undef) (a' := ?_) (bz 33 16777215) rfl rfl (any_of HT_.out (by kernel_rfl)) (fun _ _ _ h => h) (Or.inr ⟨by rfl, rfl⟩) ?_ ?_
                rotate_left
                ·simp only [Act.put, ls1, ls2, ls3, i64_w, i32_w]
                 rfl
                refine pure_ (i := 24) (N := some 93) (v := undef) (a' := ?_) (bz 33 33554431) rfl rfl (any_of HT_.out (by kernel_rfl)) (fun _ _ _ h => h) (Or.inr ⟨by rfl, rfl⟩) ?_ ?_
                rotate_left
                ·simp only [Act.put, ls1, ls2, ls3, i64_w, i32_w]
                 rfl
                refine pure_ (i := 25) (N := some 94) (v := undef) (a' := ?_) (bz 33 67108863) rfl rfl (any_of HT_.out (by kernel_rfl)) (fun _ _ _ h => h) (Or.inr ⟨by rfl, rfl⟩) ?_ ?_
                rotate_left
                ·simp only [Act.put, ls1, ls2, ls3, i64_w, i32_w]
                 rfl
                refine pure_ (i := 26) (N := some 95) (v := undef) (a' := ?_) (bz 33 134217727) rfl rfl (any_of HT_.out (by kernel_rfl)) (fun _ _ _ h => h) (Or.inr ⟨by rfl, rfl⟩) ?_ ?_
                rotate_left
                ·simp only [Act.put, ls1, ls2, ls3, i64_w, i32_w]
                 rfl
                refine pure_ (i := 27) (N := some 96) (v := undef) (a' := ?_) (bz 33 268435455) rfl rfl (any_of HT_.out (by kernel_rfl)) (fun _ _ _ h => h) (Or.inr ⟨by rfl, rfl⟩) ?_ ?_
                rotate_left
                ·simp only [Act.put, ls1, ls2, ls3, i64_w, i32_w]
                 rfl
                refine pure_ (i := 28) (N := some 97) (v := undef) (a' := ?_) (bz 33 536870911) rfl rfl (any_of HT_.out (by kernel_rfl)) (fun _ _ _ h => h) (Or.inr ⟨by rfl, rfl⟩) ?_ ?_
                rotate_left
                ·simp only [Act.put, ls1, ls2, ls3, i64_w, i32_w]
                 rfl
                refine pure_ (i := 29) (N := some 98) (v := undef) (a' := ?_) (bz 33 1073741823) rfl rfl (any_of HT_.out (by kernel_rfl)) (fun _ _ _ h => h) (Or.inr ⟨by rfl, rfl⟩) ?_ ?_
                rotate_left
                ·simp only [Act.put, ls1, ls2, ls3, i64_w, i32_w]
                 rfl
                refine pure_ (i := 30) (N := some 99) (v := undef) (a' := ?_) (bz 33 2147483647) rfl rfl (any_of HT_.out (by kernel_rfl)) (fun _ _ _ h => h) (Or.inr ⟨by rfl, rfl⟩) ?_ ?_
                rotate_left
                ·simp only [Act.put, ls1, ls2, ls3, i64_w, i32_w]
                 rfl
                refine pure_ (i := 31) (N := some 100) (v := ?_) (a' := ?_) (bz 33 4294967295) rfl rfl (any_of HT_.out (by kernel_rfl)) (fun _ _ _ h => h) (Or.inl ⟨by rfl, ?_⟩) ?_ ?_; rotate_left; (intro w'; go_simp; with_reducible rfl); rotate_left; (simp only [Act.put, ls1, ls2, ls3, i64_w, i32_w]; rfl)
                refine pure_ (i := 32) (N := some 101) (v := ?_) (a' := ?_) (bz 33 8589934591) rfl rfl (any_of HT_.out (by kernel_rfl)) (fun _ _ _ h => h) (Or.inl ⟨by rfl, ?_⟩) ?_ ?_; rotate_left; (intro w'; go_simp; with_reducible rfl); rotate_left; (simp only [Act.put, ls1, ls2, ls3, i64_w, i32_w]; rfl)
                refine done_ (done_of HT_.out (by kernel_rfl)) ?_
                try go_wp2
                go_roundg k3
                case measure => have := HJ15.out; have := HJ45.out; have := HK3.out; omega
                case rel => exact ⟨(wrap64 (x9_3 + 1)), (by first | rfl | (simp; done) | (simp [*]; done)), H', ⟨by have := HJ15.out; have := HJ45.out; have := HK3.out; omega⟩, ⟨by (with_reducible repeat (first | apply Kd.R_alloc | apply Kd.R_drewN | apply Kd.R_drew)); exact HO_8.out⟩, ⟨by (with_reducible repeat (first | apply Kd.Q_alloc | apply Kd.Q_drewN | apply Kd.Q_drew)); exact HO_292002.out⟩, ⟨by (with_reducible repeat (first | apply Kd.Q_alloc | apply Kd.Q_drewN | apply Kd.Q_drew)); exact HO_305002.out⟩, ⟨by (with_reducible repeat (first | refine blk_drewN ?_ _ | refine blk_drew ?_ | refine blk_alloc ?_ _)); exact BK291.out⟩, ⟨by (with_reducible repeat (first | refine blk_drewN ?_ _ | refine blk_drew ?_ | refine blk_alloc ?_ _)); exact BK304.out⟩, ⟨by repeat (first | (with_reducible first | exact HB.out | apply below_alloc | apply pw_below_drewN | apply below_drew1 | refine below_set ?_ GE291.out | refine below_set ?_ GE304.out) | exact HB.out)⟩⟩
              ·rw [if_neg c63] at H
               have c63b0 : (t312 == 1) = false := beq_eq_false_iff_ne.mpr c63
               have c63b1 : (t312 != 1) = true := bne_iff_ne.mpr c63
               obtain rfl := Option.some.inj H
               obtain ⟨Ao88, co88, eo88⟩ := Kd.R_slice HO_8.out
               subst eo88
               try go_wp2
               have n0_ := Aside0.mk (Kd.R_drew HO_8.out)
               have n1_ := Aside0.mk (Kd.Q_drew HO_292002.out)
               have n2_ := Aside0.mk (Kd.Q_drew HO_305002.out)
               have n3_ := Aside0.mk (blk_drew BK291.out)
               have n4_ := Aside0.mk (blk_drew BK304.out)
               have n5_ := Aside0.mk (below_drew1 HB.out)
               clear HO_8
               clear HO_292002
               clear HO_305002
               clear BK291
               clear BK304
               clear HB
               have HO_8 := n0_
               have HO_292002 := n1_
               have HO_305002 := n2_
               have BK291 := n3_
               have BK304 := n4_
               have HB := n5_
               clear n0_ n1_ n2_ n3_ n4_ n5_
               have p309 : 0 ≤ (x9_3 : Int) := of_decide_eq_true (by first | (with_reducible assumption) | assumption)
               have q309 : x9_3 < (t305.length : Int) := of_decide_eq_true (by first | (with_reducible assumption) | assumption)
               obtain ⟨ad309, e309, hx309_0⟩ := Kd.at_int (Kd.R_reads' HO_8.out).2.2 x9_3 p309 q309
               cases e309
               replace p309 := eq_true p309
               replace q309 := eq_true q309
               have p311 : 0 ≤ (x9_3 : Int) := of_decide_eq_true (by first | (with_reducible assumption) | assumption)
               have q311 : x9_3 < (t305.length : Int) := of_decide_eq_true (by first | (with_reducible assumption) | assumption)
               obtain ⟨ad311, e311, hx311_0⟩ := Kd.at_int (Kd.R_reads' HO_8.out).2.2 x9_3 p311 q311
               obtain rfl : ad309 = ad311 := (by injection e311)
               replace p311 := eq_true p311
               replace q311 := eq_true q311
               refine start_ (n := 33) (S := fun w' => w'.cell? ⟨gb304, 0, none⟩ = some (.int .i64 t298) ∧ w'.cell? ⟨gb304, 1, none⟩ = some (.int .i64 t299) ∧ w'.cell? ⟨gb304, 2, none⟩ = some (.slice Ao51 t300.length co51) ∧ w'.cell? (ad309.add (x9_3).toNat) = some (.int .i64 (rd t305 x9_3)) ∧ w'.cell? (ad309.add (x9_3).toNat) = some (.int .i64 (rd t305 x9_3))) (ds := []) (bz 33 0) (by kernel_rfl) rfl rfl ⟨(blk_cell BK304.out 0).trans rfl, (blk_cell BK304.out 1).trans rfl, (blk_cell BK304.out 2).trans rfl, hx309_0, hx311_0⟩ (fun hHeld => ?_); refine with_tabW laws_FnLand.tab15 laws_FnLand.bits15 (fun HT_ HW_ => ?_)
               generalize wr.drew = w89 at HO_8 HO_292002 HO_305002 BK291 BK304 HB hx309_0 hx311_0 hHeld ⊢
               refine pure_ (i := 1) (N := some 70) (v := ?_) (a' := ?_) (bz 33 2) rfl rfl (any_of HT_.out (by kernel_rfl)) (fun _ _ _ h => h) (Or.inl ⟨by rfl, ?_⟩) ?_ ?_; rotate_left; (intro w'; go_simp; with_reducible rfl); rotate_left; (simp only [Act.put, ls1, ls2, ls3, i64_w, i32_w]; rfl)
               refine pure_ (i := 2) (N := some 71) (v := ?_) (a' := ?_) (bz 33 6) rfl rfl (any_of HT_.out (by kernel_rfl)) (fun _ _ _ h => h) (Or.inl ⟨by rfl, ?_⟩) ?_ ?_; rotate_left; (intro w'; go_simp; with_reducible rfl); rotate_left; (simp only [Act.put, ls1, ls2, ls3, i64_w, i32_w]; rfl)
               refine pure_ (i := 3) (N := some 72) (v := ?_) (a' := ?_) (bz 33 14) rfl rfl (any_of HT_.out (by kernel_rfl)) (fun _ _ _ h => h) (Or.inl ⟨by rfl, ?_⟩) ?_ ?_; rotate_left; (intro w'; go_simp; with_reducible rfl); rotate_left; (simp only [Act.put, ls1, ls2, ls3, i64_w, i32_w]; rfl)
               refine take_ (i := 0) (N := some 69) (v := ?_) (a' := ?_) (bz 33 15) rfl rfl (take_ofW HT_.out HW_.out (by kernel_rfl)) (fun _ _ _ h => h) (Or.inl ⟨by rfl, ?_⟩) hHeld ?_ ?_; rotate_left; (rintro w' ⟨s0, s1, s2, s3, s4⟩; go_simp; with_reducible rfl); rotate_left; (simp only [Act.put, ls1, ls2, ls3, i64_w, i32_w]; rfl)
               refine take_ (i := 4) (N := some 73) (v := ?_) (a' := ?_) (bz 33 31) rfl rfl (take_ofW HT_.out HW_.out (by kernel_rfl)) (fun _ _ _ h => h) (Or.inl ⟨by rfl, ?_⟩) hHeld ?_ ?_; rotate_left; (rintro w' ⟨s0, s1, s2, s3, s4⟩; go_simp; with_reducible rfl); rotate_left; (simp only [Act.put, ls1, ls2, ls3, i64_w, i32_w]; rfl)
               refine one_ (i := 5) (N := some 74) (bz 33 63) rfl rfl (one_of HT_.out (by kernel_rfl)) (by decide) (fun K hK => ?_)
               refine goes_ Try.func76 (by kernel_rfl) rfl #[.agg #[.int .i64 t298, .int .i64 t299, .slice Ao51 t300.length co51], .int .i64 (rd t305 x9_3)] (by rfl) rfl rfl (by (try simp only [List.map_toArray, List.map_cons, List.map_nil]); first | done | rfl | (simp only [List.length_drop, List.length_take]; rfl)) ?_
               with_reducible refine (impl_IsOpen.calls k3 t298 t299 _ _ t300 (rd t305 x9_3) true _ ?side1 ?side2 A60.out).mono ?_
               (case side1 => repeat (first | exact (Kd.Q_reads' HO_305002.out).2.2 | (with_reducible refine Kd.C_alloc ?_ _) | (with_reducible refine Kd.C_drewN ?_ _) | (with_reducible refine Kd.C_drew ?_)))
               (case side2 => exact (Kd.Q_reads' HO_305002.out).2.1)
               rintro e w90 ⟨rfl, hb⟩
               have HS3_ := (hb.cell (World.block_lt_of_cell? _ _ (hHeld.2.2.2.1))).trans (hHeld.2.2.2.1)
               have HS4_ := (hb.cell (World.block_lt_of_cell? _ _ (hHeld.2.2.2.2))).trans (hHeld.2.2.2.2)
               refine ⟨_, rfl, ?_⟩
               have n0_ := Aside0.mk (Kd.R_below (by (with_reducible repeat (first | apply Kd.R_alloc | apply Kd.R_drewN | apply Kd.R_drew)); exact HO_8.out) hb)
               have n1_ := Aside0.mk (Kd.Q_below (by (with_reducible repeat (first | apply Kd.Q_alloc | apply Kd.Q_drewN | apply Kd.Q_drew)); exact HO_292002.out) hb)
               have n2_ := Aside0.mk (Kd.Q_below (by (with_reducible repeat (first | apply Kd.Q_alloc | apply Kd.Q_drewN | apply Kd.Q_drew)); exact HO_305002.out) hb)
               have n3_ := Aside0.mk (blk_below (g := gb291) (o := .cells #[.int .i64 t284, .int .i64 t285, .slice Ao20 t286.length co20] 36 (0, 0)) (by (with_reducible repeat (first | refine blk_drewN ?_ _ | refine blk_drew ?_ | refine blk_alloc ?_ _)); exact BK291.out) hb)
               have n4_ := Aside0.mk (blk_below (g := gb304) (o := .cells #[.int .i64 t298, .int .i64 t299, .slice Ao51 t300.length co51] 36 (0, 0)) (by (with_reducible repeat (first | refine blk_drewN ?_ _ | refine blk_drew ?_ | refine blk_alloc ?_ _)); exact BK304.out) hb)
               have n5_ := Aside0.mk (below_step (by repeat (first | (with_reducible first | exact HB.out | apply below_alloc | apply pw_below_drewN | apply below_drew1 | refine below_set ?_ GE291.out | refine below_set ?_ GE304.out) | exact HB.out)) hb)
               clear HO_8
               clear HO_292002
               clear HO_305002
               clear BK291
               clear BK304
               clear HB
               have HO_8 := n0_
               have HO_292002 := n1_
               have HO_305002 := n2_
               have BK291 := n3_
               have BK304 := n4_
               have HB := n5_
               clear n0_ n1_ n2_ n3_ n4_ n5_
               (try clear hb)
               (try clear hb2)
               (try clear hk)
               (try clear hi)
               refine hK.out _ _ ⟨(blk_cell BK304.out 0).trans rfl, (blk_cell BK304.out 1).trans rfl, (blk_cell BK304.out 2).trans rfl, HS3_, HS4_⟩ (fun hHeld => ?_)
               clear hK K
               refine norm_ (a' := ?_) ?_ ?_
               rotate_left
               ·show Act.put _ (some 74) _ = _
                simp only [Act.put, ls1, ls2, ls3, i64_w, i32_w]
                rfl
               refine pure_ (i := 6) (N := some 75) (v := ?_) (a' := ?_) (bz 33 127) rfl rfl (any_of HT_.out (by kernel_rfl)) (fun _ _ _ h => h) (Or.inl ⟨by rfl, ?_⟩) ?_ ?_; rotate_left; (intro w'; go_simp; with_reducible rfl); rotate_left; (simp only [Act.put, ls1, ls2, ls3, i64_w, i32_w]; rfl)
               refine pure_ (i := 7) (N := some 76) (v := ?_) (a' := ?_) (bz 33 255) rfl rfl (any_of HT_.out (by kernel_rfl)) (fun _ _ _ h => h) (Or.inl ⟨by rfl, ?_⟩) ?_ ?_; rotate_left; (intro w'; go_simp; with_reducible rfl); rotate_left; (simp only [Act.put, ls1, ls2, ls3, i64_w, i32_w]; rfl)
               refine pure_ (i := 9) (N := some 78) (v := ?_) (a' := ?_) (bz 33 767) rfl rfl (any_of HT_.out (by kernel_rfl)) (fun _ _ _ h => h) (Or.inl ⟨by rfl, ?_⟩) ?_ ?_; rotate_left; (intro w'; go_simp; with_reducible rfl); rotate_left; (simp only [Act.put, ls1, ls2, ls3, i64_w, i32_w]; rfl)
               refine pure_ (i := 10) (N := some 79) (v := ?_) (a' := ?_) (bz 33 1791) rfl rfl (any_of HT_.out (by kernel_rfl)) (fun _ _ _ h => h) (Or.inl ⟨by rfl, ?_⟩) ?_ ?_; rotate_left; (intro w'; go_simp; with_reducible rfl); rotate_left; (simp only [Act.put, ls1, ls2, ls3, i64_w, i32_w]; rfl)
               refine pure_ (i := 11) (N := some 80) (v := ?_) (a' := ?_) (bz 33 3839) rfl rfl (any_of HT_.out (by kernel_rfl)) (fun _ _ _ h => h) (Or.inl ⟨by rfl, ?_⟩) ?_ ?_; rotate_left; (intro w'; go_simp; with_reducible rfl); rotate_left; (simp only [Act.put, ls1, ls2, ls3, i64_w, i32_w]; rfl)
               refine pure_ (i := 12) (N := some 81) (v := ?_) (a' := ?_) (bz 33 7935) rfl rfl (any_of HT_.out (by kernel_rfl)) (fun _ _ _ h => h) (Or.inl ⟨by rfl, ?_⟩) ?_ ?_; rotate_left; (intro w'; go_simp; with_reducible rfl); rotate_left; (simp only [Act.put, ls1, ls2, ls3, i64_w, i32_w]; rfl)
               refine take_ (i := 8) (N := some 77) (v := ?_) (a' := ?_) (bz 33 8191) rfl rfl (take_ofW HT_.out HW_.out (by kernel_rfl)) (fun _ _ _ h => h) (Or.inl ⟨by rfl, ?_⟩) hHeld ?_ ?_; rotate_left; (rintro w' ⟨s0, s1, s2, s3, s4⟩; go_simp; with_reducible rfl); rotate_left; (simp only [Act.put, ls1, ls2, ls3, i64_w, i32_w]; rfl)
               refine take_ (i := 13) (N := some 82) (v := ?_) (a' := ?_) (bz 33 16383) rfl rfl (take_ofW HT_.out HW_.out (by kernel_rfl)) (fun _ _ _ h => h) (Or.inl ⟨by rfl, ?_⟩) hHeld ?_ ?_; rotate_left; (rintro w' ⟨s0, s1, s2, s3, s4⟩; go_simp; with_reducible rfl); rotate_left; (simp only [Act.put, ls1, ls2, ls3, i64_w, i32_w]; rfl)
               refine one_ (i := 14) (N := some 83) (bz 33 32767) rfl rfl (one_of HT_.out (by kernel_rfl)) (by decide) (fun K hK => ?_)
               refine goes_ Try.func26 (by kernel_rfl) rfl #[.agg #[.int .i64 t298, .int .i64 t299, .slice Ao51 t300.length co51], .int .i64 t303, .int .i64 (rd t305 x9_3)] (by rfl) rfl rfl (by (try simp only [List.map_toArray, List.map_cons, List.map_nil]); first | done | rfl | (simp only [List.length_drop, List.length_take]; rfl)) ?_
               with_reducible refine (impl_Apart.calls k3 t298 t299 _ _ t300 t303 (rd t305 x9_3) t312 _ ?side1 ?side2 A62.out).mono ?_
               (case side1 => repeat (first | exact (Kd.Q_reads' HO_305002.out).2.2 | (with_reducible refine Kd.C_alloc ?_ _) | (with_reducible refine Kd.C_drewN ?_ _) | (with_reducible refine Kd.C_drew ?_)))
               (case side2 => exact (Kd.Q_reads' HO_305002.out).2.1)
               rintro e w91 ⟨rfl, hb⟩
               have HS3_ := (hb.cell (World.block_lt_of_cell? _ _ (hHeld.2.2.2.1))).trans (hHeld.2.2.2.1)
               have HS4_ := (hb.cell (World.block_lt_of_cell? _ _ (hHeld.2.2.2.2))).trans (hHeld.2.2.2.2)
               refine ⟨_, rfl, ?_⟩
               have n0_ := Aside0.mk (Kd.R_below (by (with_reducible repeat (first | apply Kd.R_alloc | apply Kd.R_drewN | apply Kd.R_drew)); exact HO_8.out) hb)
               have n1_ := Aside0.mk (Kd.Q_below (by (with_reducible repeat (first | apply Kd.Q_alloc | apply Kd.Q_drewN | apply Kd.Q_drew)); exact HO_292002.out) hb)
               have n2_ := Aside0.mk (Kd.Q_below (by (with_reducible repeat (first | apply Kd.Q_alloc | apply Kd.Q_drewN | apply Kd.Q_drew)); exact HO_305002.out) hb)
               have n3_ := Aside0.mk (blk_below (g := gb291) (o := .cells #[.int .i64 t284, .int .i64 t285, .slice Ao20 t286.length co20] 36 (0, 0)) (by (with_reducible repeat (first | refine blk_drewN ?_ _ | refine blk_drew ?_ | refine blk_alloc ?_ _)); exact BK291.out) hb)
               have n4_ := Aside0.mk (blk_below (g := gb304) (o := .cells #[.int .i64 t298, .int .i64 t299, .slice Ao51 t300.length co51] 36 (0, 0)) (by (with_reducible repeat (first | refine blk_drewN ?_ _ | refine blk_drew ?_ | refine blk_alloc ?_ _)); exact BK304.out) hb)
               have n5_ := Aside0.mk (below_step (by repeat (first | (with_reducible first | exact HB.out | apply below_alloc | apply pw_below_drewN | apply below_drew1 | refine below_set ?_ GE291.out | refine below_set ?_ GE304.out) | exact HB.out)) hb)
               clear HO_8
               clear HO_292002
               clear HO_305002
               clear BK291
               clear BK304
               clear HB
               have HO_8 := n0_
               have HO_292002 := n1_
               have HO_305002 := n2_
               have BK291 := n3_
               have BK304 := n4_
               have HB := n5_
               clear n0_ n1_ n2_ n3_ n4_ n5_
               (try clear hb)
               (try clear hb2)
               (try clear hk)
               (try clear hi)
               refine hK.out _ _ ⟨(blk_cell BK304.out 0).trans rfl, (blk_cell BK304.out 1).trans rfl, (blk_cell BK304.out 2).trans rfl, HS3_, HS4_⟩ (fun hHeld => ?_)
               clear hK K
               refine norm_ (a' := ?_) ?_ ?_
               rotate_left
               ·show Act.put _ (some 83) _ = _
                simp only [Act.put, ls1, ls2, ls3, i64_w, i32_w]
                rfl
               refine pure_ (i := 15) (N := some 84) (v := ?_) (a' := ?_) (bz 33 65535) rfl rfl (any_of HT_.out (by kernel_rfl)) (fun _ _ _ h => h) (Or.inl ⟨by rfl, ?_⟩) ?_ ?_; rotate_left; (intro w'; go_simp; with_reducible rfl); rotate_left; (simp only [Act.put, ls1, ls2, ls3, i64_w, i32_w]; rfl)
               refine pure_ (i := 16) (N := some 85) (v := ?_) (a' := ?_) (bz 33 131071) rfl rfl (any_of HT_.out (by kernel_rfl)) (fun _ _ _ h => h) (Or.inl ⟨by rfl, ?_⟩) ?_ ?_; rotate_left; (intro w'; go_simp; with_reducible rfl); rotate_left; (simp only [Act.put, ls1, ls2, ls3, i64_w, i32_w]; rfl)
               refine pure_ (i := 17) (N := some 86) (v := ?_) (a' := ?_) (bz 33 262143) rfl rfl (any_of HT_.out (by kernel_rfl)) (fun _ _ _ h => h) (Or.inl ⟨by rfl, ?_⟩) ?_ ?_; rotate_left; (intro w'; go_simp; with_reducible rfl); rotate_left; (simp only [Act.put, ls1, ls2, ls3, i64_w, i32_w]; rfl)
               refine pure_ (i := 18) (N := some 87) (v := undef) (a' := ?_) (bz 33 524287) rfl rfl (any_of HT_.out (by kernel_rfl)) (fun _ _ _ h => h) (Or.inr ⟨by rfl, rfl⟩) ?_ ?_
               rotate_left
               ·simp only [Act.put, ls1, ls2, ls3, i64_w, i32_w]
                rfl
               refine pure_ (i := 19) (N := some 88) (v := undef) (a' := ?_) (bz 33 1048575) rfl rfl (any_of HT_.out (by kernel_rfl)) (fun _ _ _ h => h) (Or.inr ⟨by rfl, rfl⟩) ?_ ?_
               rotate_left
               ·simp only [Act.put, ls1, ls2, ls3, i64_w, i32_w]
                rfl
               refine pure_ (i := 20) (N := some 89) (v := undef) (a' := ?_) (bz 33 2097151) rfl rfl (any_of HT_.out (by kernel_rfl)) (fun _ _ _ h => h) (Or.inr ⟨by rfl, rfl⟩) ?_ ?_
               rotate_left
               ·simp only [Act.put, ls1, ls2, ls3, i64_w, i32_w]
                rfl
               refine pure_ (i := 21) (N := some 90) (v := undef) (a' := ?_) (bz 33 4194303) rfl rfl (any_of HT_.out (by kernel_rfl)) (fun _ _ _ h => h) (Or.inr ⟨by rfl, rfl⟩) ?_ ?_
               rotate_left
               ·simp only [Act.put, ls1, ls2, ls3, i64_w, i32_w]
                rfl
               refine pure_ (i := 22) (N := some 91) (v := undef) (a' := ?_) (bz 33 8388607) rfl rfl (any_of HT_.out (by kernel_rfl)) (fun _ _ _ h => h) (Or.inr ⟨by rfl, rfl⟩) ?_ ?_
               rotate_left
               ·simp only [Act.put, ls1, ls2, ls3, i64_w, i32_w]
                rfl
               refine pure_ (i := 23) (N := some 92) (v := undef) (a' := ?_) (bz 33 16777215) rfl rfl (any_of HT_.out (by kernel_rfl)) (fun _ _ _ h => h) (Or.inr ⟨by rfl, rfl⟩) ?_ ?_
               rotate_left
               ·simp only [Act.put, ls1, ls2, ls3, i64_w, i32_w]
                rfl
               refine pure_ (i := 24) (N := some 93) (v := undef) (a' := ?_) (bz 33 33554431) rfl rfl (any_of HT_.out (by kernel_rfl)) (fun _ _ _ h => h) (Or.inr ⟨by rfl, rfl⟩) ?_ ?_
               rotate_left
               ·simp only [Act.put, ls1, ls2, ls3, i64_w, i32_w]
                rfl
               refine pure_ (i := 25) (N := some 94) (v := undef) (a' := ?_) (bz 33 67108863) rfl rfl (any_of HT_.out (by kernel_rfl)) (fun _ _ _ h => h) (Or.inr ⟨by rfl, rfl⟩) ?_ ?_
               rotate_left
               ·simp only [Act.put, ls1, ls2, ls3, i64_w, i32_w]
                rfl
               refine pure_ (i := 26) (N := some 95) (v := undef) (a' := ?_) (bz 33 134217727) rfl rfl (any_of HT_.out (by kernel_rfl)) (fun _ _ _ h => h) (Or.inr ⟨by rfl, rfl⟩) ?_ ?_
               rotate_left
               ·simp only [Act.put, ls1, ls2, ls3, i64_w, i32_w]
                rfl
               refine pure_ (i := 27) (N := some 96) (v := undef) (a' := ?_) (bz 33 268435455) rfl rfl (any_of HT_.out (by kernel_rfl)) (fun _ _ _ h => h) (Or.inr ⟨by rfl, rfl⟩) ?_ ?_
               rotate_left
               ·simp only [Act.put, ls1, ls2, ls3, i64_w, i32_w]
                rfl
               refine pure_ (i := 28) (N := some 97) (v := undef) (a' := ?_) (bz 33 536870911) rfl rfl (any_of HT_.out (by kernel_rfl)) (fun _ _ _ h => h) (Or.inr ⟨by rfl, rfl⟩) ?_ ?_
               rotate_left
               ·simp only [Act.put, ls1, ls2, ls3, i64_w, i32_w]
                rfl
               refine pure_ (i := 29) (N := some 98) (v := undef) (a' := ?_) (bz 33 1073741823) rfl rfl (any_of HT_.out (by kernel_rfl)) (fun _ _ _ h => h) (Or.inr ⟨by rfl, rfl⟩) ?_ ?_
               rotate_left
               ·simp only [Act.put, ls1, ls2, ls3, i64_w, i32_w]
                rfl
               refine pure_ (i := 30) (N := some 99) (v := undef) (a' := ?_) (bz 33 2147483647) rfl rfl (any_of HT_.out (by kernel_rfl)) (fun _ _ _ h => h) (Or.inr ⟨by rfl, rfl⟩) ?_ ?_
               rotate_left
               ·simp only [Act.put, ls1, ls2, ls3, i64_w, i32_w]
                rfl
               refine pure_ (i := 31) (N := some 100) (v := undef) (a' := ?_) (bz 33 4294967295) rfl rfl (any_of HT_.out (by kernel_rfl)) (fun _ _ _ h => h) (Or.inr ⟨by rfl, rfl⟩) ?_ ?_
               rotate_left
               ·simp only [Act.put, ls1, ls2, ls3, i64_w, i32_w]
                rfl
               refine pure_ (i := 32) (N := some 101) (v := ?_) (a' := ?_) (bz 33 8589934591) rfl rfl (any_of HT_.out (by kernel_rfl)) (fun _ _ _ h => h) (Or.inl ⟨by rfl, ?_⟩) ?_ ?_; rotate_left; (intro w'; go_simp; with_reducible rfl); rotate_left; (simp only [Act.put, ls1, ls2, ls3, i64_w, i32_w]; rfl)
               refine done_ (done_of HT_.out (by kernel_rfl)) ?_
               try go_wp2
               go_ret
               exact ⟨by first | rfl | (simp [errW_none, errW_some] <;> rfl) | (simp [*, errW_none, errW_some] <;> rfl), by repeat (first | (with_reducible first | exact HB.out | apply below_alloc | apply pw_below_drewN | apply below_drew1 | refine below_set ?_ GE291.out | refine below_set ?_ GE304.out) | exact HB.out)⟩
             ·replace c61 := Bool.eq_false_iff.mpr c61
              subst c61
              have H1 : (some false) = some r := by rw [if_neg (show ¬ (false = true) by decide)] at H; exact H
              clear H
              have H := H1
              clear H1
              obtain rfl := Option.some.inj H
              obtain ⟨Ao92, co92, eo92⟩ := Kd.R_slice HO_8.out
              subst eo92
              try go_wp2
              have n0_ := Aside0.mk (Kd.R_drew HO_8.out)
              have n1_ := Aside0.mk (Kd.Q_drew HO_292002.out)
              have n2_ := Aside0.mk (Kd.Q_drew HO_305002.out)
              have n3_ := Aside0.mk (blk_drew BK291.out)
              have n4_ := Aside0.mk (blk_drew BK304.out)
              have n5_ := Aside0.mk (below_drew1 HB.out)
              clear HO_8
              clear HO_292002
              clear HO_305002
              clear BK291
              clear BK304
              clear HB
              have HO_8 := n0_
              have HO_292002 := n1_
              have HO_305002 := n2_
              have BK291 := n3_
              have BK304 := n4_
              have HB := n5_
              clear n0_ n1_ n2_ n3_ n4_ n5_
              have p309 : 0 ≤ (x9_3 : Int) := of_decide_eq_true (by first | (with_reducible assumption) | assumption)
              have q309 : x9_3 < (t305.length : Int) := of_decide_eq_true (by first | (with_reducible assumption) | assumption)
              obtain ⟨ad309, e309, hx309_0⟩ := Kd.at_int (Kd.R_reads' HO_8.out).2.2 x9_3 p309 q309
              cases e309
              replace p309 := eq_true p309
              replace q309 := eq_true q309
              refine start_ (n := 33) (S := fun w' => w'.cell? ⟨gb304, 0, none⟩ = some (.int .i64 t298) ∧ w'.cell? ⟨gb304, 1, none⟩ = some (.int .i64 t299) ∧ w'.cell? ⟨gb304, 2, none⟩ = some (.slice Ao51 t300.length co51) ∧ w'.cell? (ad309.add (x9_3).toNat) = some (.int .i64 (rd t305 x9_3))) (ds := []) (bz 33 0) (by kernel_rfl) rfl rfl ⟨(blk_cell BK304.out 0).trans rfl, (blk_cell BK304.out 1).trans rfl, (blk_cell BK304.out 2).trans rfl, hx309_0⟩ (fun hHeld => ?_); refine with_tabW laws_FnLand.tab15 laws_FnLand.bits15 (fun HT_ HW_ => ?_)
              generalize wr.drew = w93 at HO_8 HO_292002 HO_305002 BK291 BK304 HB hx309_0 hHeld ⊢
              refine pure_ (i := 1) (N := some 70) (v := ?_) (a' := ?_) (bz 33 2) rfl rfl (any_of HT_.out (by kernel_rfl)) (fun _ _ _ h => h) (Or.inl ⟨by rfl, ?_⟩) ?_ ?_; rotate_left; (intro w'; go_simp; with_reducible rfl); rotate_left; (simp only [Act.put, ls1, ls2, ls3, i64_w, i32_w]; rfl)
              refine pure_ (i := 2) (N := some 71) (v := ?_) (a' := ?_) (bz 33 6) rfl rfl (any_of HT_.out (by kernel_rfl)) (fun _ _ _ h => h) (Or.inl ⟨by rfl, ?_⟩) ?_ ?_; rotate_left; (intro w'; go_simp; with_reducible rfl); rotate_left; (simp only [Act.put, ls1, ls2, ls3, i64_w, i32_w]; rfl)
              refine pure_ (i := 3) (N := some 72) (v := ?_) (a' := ?_) (bz 33 14) rfl rfl (any_of HT_.out (by kernel_rfl)) (fun _ _ _ h => h) (Or.inl ⟨by rfl, ?_⟩) ?_ ?_; rotate_left; (intro w'; go_simp; with_reducible rfl); rotate_left; (simp only [Act.put, ls1, ls2, ls3, i64_w, i32_w]; rfl)
              refine take_ (i := 0) (N := some 69) (v := ?_) (a' := ?_) (bz 33 15) rfl rfl (take_ofW HT_.out HW_.out (by kernel_rfl)) (fun _ _ _ h => h) (Or.inl ⟨by rfl, ?_⟩) hHeld ?_ ?_; rotate_left; (rintro w' ⟨s0, s1, s2, s3⟩; go_simp; with_reducible rfl); rotate_left; (simp only [Act.put, ls1, ls2, ls3, i64_w, i32_w]; rfl)
              refine take_ (i := 4) (N := some 73) (v := ?_) (a' := ?_) (bz 33 31) rfl rfl (take_ofW HT_.out HW_.out (by kernel_rfl)) (fun _ _ _ h => h) (Or.inl ⟨by rfl, ?_⟩) hHeld ?_ ?_; rotate_left; (rintro w' ⟨s0, s1, s2, s3⟩; go_simp; with_reducible rfl); rotate_left; (simp only [Act.put, ls1, ls2, ls3, i64_w, i32_w]; rfl)
              refine one_ (i := 5) (N := some 74) (bz 33 63) rfl rfl (one_of HT_.out (by kernel_rfl)) (by decide) (fun K hK => ?_)
              refine goes_ Try.func76 (by kernel_rfl) rfl #[.agg #[.int .i64 t298, .int .i64 t299, .slice Ao51 t300.length co51], .int .i64 (rd t305 x9_3)] (by rfl) rfl rfl (by (try simp only [List.map_toArray, List.map_cons, List.map_nil]); first | done | rfl | (simp only [List.length_drop, List.length_take]; rfl)) ?_
              with_reducible refine (impl_IsOpen.calls k3 t298 t299 _ _ t300 (rd t305 x9_3) false _ ?side1 ?side2 A60.out).mono ?_
              (case side1 => repeat (first | exact (Kd.Q_reads' HO_305002.out).2.2 | (with_reducible refine Kd.C_alloc ?_ _) | (with_reducible refine Kd.C_drewN ?_ _) | (with_reducible refine Kd.C_drew ?_)))
              (case side2 => exact (Kd.Q_reads' HO_305002.out).2.1)
              rintro e w94 ⟨rfl, hb⟩
              have HS3_ := (hb.cell (World.block_lt_of_cell? _ _ (hHeld.2.2.2))).trans (hHeld.2.2.2)
              refine ⟨_, rfl, ?_⟩
              have n0_ := Aside0.mk (Kd.R_below (by (with_reducible repeat (first | apply Kd.R_alloc | apply Kd.R_drewN | apply Kd.R_drew)); exact HO_8.out) hb)
              have n1_ := Aside0.mk (Kd.Q_below (by (with_reducible repeat (first | apply Kd.Q_alloc | apply Kd.Q_drewN | apply Kd.Q_drew)); exact HO_292002.out) hb)
              have n2_ := Aside0.mk (Kd.Q_below (by (with_reducible repeat (first | apply Kd.Q_alloc | apply Kd.Q_drewN | apply Kd.Q_drew)); exact HO_305002.out) hb)
              have n3_ := Aside0.mk (blk_below (g := gb291) (o := .cells #[.int .i64 t284, .int .i64 t285, .slice Ao20 t286.length co20] 36 (0, 0)) (by (with_reducible repeat (first | refine blk_drewN ?_ _ | refine blk_drew ?_ | refine blk_alloc ?_ _)); exact BK291.out) hb)
              have n4_ := Aside0.mk (blk_below (g := gb304) (o := .cells #[.int .i64 t298, .int .i64 t299, .slice Ao51 t300.length co51] 36 (0, 0)) (by (with_reducible repeat (first | refine blk_drewN ?_ _ | refine blk_drew ?_ | refine blk_alloc ?_ _)); exact BK304.out) hb)
              have n5_ := Aside0.mk (below_step (by repeat (first | (with_reducible first | exact HB.out | apply below_alloc | apply pw_below_drewN | apply below_drew1 | refine below_set ?_ GE291.out | refine below_set ?_ GE304.out) | exact HB.out)) hb)
              clear HO_8
              clear HO_292002
              clear HO_305002
              clear BK291
              clear BK304
              clear HB
              have HO_8 := n0_
              have HO_292002 := n1_
              have HO_305002 := n2_
              have BK291 := n3_
              have BK304 := n4_
              have HB := n5_
              clear n0_ n1_ n2_ n3_ n4_ n5_
              (try clear hb)
              (try clear hb2)
              (try clear hk)
              (try clear hi)
              refine hK.out _ _ ⟨(blk_cell BK304.out 0).trans rfl, (blk_cell BK304.out 1).trans rfl, (blk_cell BK304.out 2).trans rfl, HS3_⟩ (fun hHeld => ?_)
              clear hK K
              refine norm_ (a' := ?_) ?_ ?_
              rotate_left
              ·show Act.put _ (some 74) _ = _
               simp only [Act.put, ls1, ls2, ls3, i64_w, i32_w]
               rfl
              refine pure_ (i := 6) (N := some 75) (v := ?_) (a' := ?_) (bz 33 127) rfl rfl (any_of HT_.out (by kernel_rfl)) (fun _ _ _ h => h) (Or.inl ⟨by rfl, ?_⟩) ?_ ?_; rotate_left; (intro w'; go_simp; with_reducible rfl); rotate_left; (simp only [Act.put, ls1, ls2, ls3, i64_w, i32_w]; rfl)
              refine pure_ (i := 7) (N := some 76) (v := ?_) (a' := ?_) (bz 33 255) rfl rfl (any_of HT_.out (by kernel_rfl)) (fun _ _ _ h => h) (Or.inl ⟨by rfl, ?_⟩) ?_ ?_; rotate_left; (intro w'; go_simp; with_reducible rfl); rotate_left; (simp only [Act.put, ls1, ls2, ls3, i64_w, i32_w]; rfl)
              refine pure_ (i := 8) (N := some 77) (v := undef) (a' := ?_) (bz 33 511) rfl rfl (any_of HT_.out (by kernel_rfl)) (fun _ _ _ h => h) (Or.inr ⟨by rfl, rfl⟩) ?_ ?_
              rotate_left
              ·simp only [Act.put, ls1, ls2, ls3, i64_w, i32_w]
               rfl
              refine pure_ (i := 9) (N := some 78) (v := undef) (a' := ?_) (bz 33 1023) rfl rfl (any_of HT_.out (by kernel_rfl)) (fun _ _ _ h => h) (Or.inr ⟨by rfl, rfl⟩) ?_ ?_
              rotate_left
              ·simp only [Act.put, ls1, ls2, ls3, i64_w, i32_w]
               rfl
              refine pure_ (i := 10) (N := some 79) (v := undef) (a' := ?_) (bz 33 2047) rfl rfl (any_of HT_.out (by kernel_rfl)) (fun _ _ _ h => h) (Or.inr ⟨by rfl, rfl⟩) ?_ ?_
              rotate_left
              ·simp only [Act.put, ls1, ls2, ls3, i64_w, i32_w]
               rfl
              refine pure_ (i := 11) (N := some 80) (v := undef) (a' := ?_) (bz 33 4095) rfl rfl (any_of HT_.out (by kernel_rfl)) (fun _ _ _ h => h) (Or.inr ⟨by rfl, rfl⟩) ?_ ?_
              rotate_left
              ·simp only [Act.put, ls1, ls2, ls3, i64_w, i32_w]
               rfl
              refine pure_ (i := 12) (N := some 81) (v := undef) (a' := ?_) (bz 33 8191) rfl rfl (any_of HT_.out (by kernel_rfl)) (fun _ _ _ h => h) (Or.inr ⟨by rfl, rfl⟩) ?_ ?_
              rotate_left
              ·simp only [Act.put, ls1, ls2, ls3, i64_w, i32_w]
               rfl
              refine pure_ (i := 13) (N := some 82) (v := undef) (a' := ?_) (bz 33 16383) rfl rfl (any_of HT_.out (by kernel_rfl)) (fun _ _ _ h => h) (Or.inr ⟨by rfl, rfl⟩) ?_ ?_
              rotate_left
              ·simp only [Act.put, ls1, ls2, ls3, i64_w, i32_w]
               rfl
              refine pure_ (i := 14) (N := some 83) (v := undef) (a' := ?_) (bz 33 32767) rfl rfl (any_of HT_.out (by kernel_rfl)) (fun _ _ _ h => h) (Or.inr ⟨by rfl, rfl⟩) ?_ ?_
              rotate_left
              ·simp only [Act.put, ls1, ls2, ls3, i64_w, i32_w]
               rfl
              refine pure_ (i := 15) (N := some 84) (v := undef) (a' := ?_) (bz 33 65535) rfl rfl (any_of HT_.out (by kernel_rfl)) (fun _ _ _ h => h) (Or.inr ⟨by rfl, rfl⟩) ?_ ?_
              rotate_left
              ·simp only [Act.put, ls1, ls2, ls3, i64_w, i32_w]
               rfl
              refine pure_ (i := 16) (N := some 85) (v := ?_) (a' := ?_) (bz 33 131071) rfl rfl (any_of HT_.out (by kernel_rfl)) (fun _ _ _ h => h) (Or.inl ⟨by rfl, ?_⟩) ?_ ?_; rotate_left; (intro w'; go_simp; with_reducible rfl); rotate_left; (simp only [Act.put, ls1, ls2, ls3, i64_w, i32_w]; rfl)
              refine pure_ (i := 17) (N := some 86) (v := ?_) (a' := ?_) (bz 33 262143) rfl rfl (any_of HT_.out (by kernel_rfl)) (fun _ _ _ h => h) (Or.inl ⟨by rfl, ?_⟩) ?_ ?_; rotate_left; (intro w'; go_simp; with_reducible rfl); rotate_left; (simp only [Act.put, ls1, ls2, ls3, i64_w, i32_w]; rfl)
              refine pure_ (i := 18) (N := some 87) (v := undef) (a' := ?_) (bz 33 524287) rfl rfl (any_of HT_.out (by kernel_rfl)) (fun _ _ _ h => h) (Or.inr ⟨by rfl, rfl⟩) ?_ ?_
              rotate_left
              ·simp only [Act.put, ls1, ls2, ls3, i64_w, i32_w]
               rfl
              refine pure_ (i := 19) (N := some 88) (v := undef) (a' := ?_) (bz 33 1048575) rfl rfl (any_of HT_.out (by kernel_rfl)) (fun _ _ _ h => h) (Or.inr ⟨by rfl, rfl⟩) ?_ ?_
              rotate_left
              ·simp only [Act.put, ls1, ls2, ls3, i64_w, i32_w]
               rfl
              refine pure_ (i := 20) (N := some 89) (v := undef) (a' := ?_) (bz 33 2097151) rfl rfl (any_of HT_.out (by kernel_rfl)) (fun _ _ _ h => h) (Or.inr ⟨by rfl, rfl⟩) ?_ ?_
              rotate_left
              ·simp only [Act.put, ls1, ls2, ls3, i64_w, i32_w]
               rfl
              refine pure_ (i := 21) (N := some 90) (v := undef) (a' := ?_) (bz 33 4194303) rfl rfl (any_of HT_.out (by kernel_rfl)) (fun _ _ _ h => h) (Or.inr ⟨by rfl, rfl⟩) ?_ ?_
              rotate_left
              ·simp only [Act.put, ls1, ls2, ls3, i64_w, i32_w]
               rfl
              refine pure_ (i := 22) (N := some 91) (v := undef) (a' := ?_) (bz 33 8388607) rfl rfl (any_of HT_.out (by kernel_rfl)) (fun _ _ _ h => h) (Or.inr ⟨by rfl, rfl⟩) ?_ ?_
              rotate_left
              ·simp only [Act.put, ls1, ls2, ls3, i64_w, i32_w]
               rfl
              refine pure_ (i := 23) (N := some 92) (v := undef) (a' := ?_) (bz 33 16777215) rfl rfl (any_of HT_.out (by kernel_rfl)) (fun _ _ _ h => h) (Or.inr ⟨by rfl, rfl⟩) ?_ ?_
              rotate_left
              ·simp only [Act.put, ls1, ls2, ls3, i64_w, i32_w]
               rfl
              refine pure_ (i := 24) (N := some 93) (v := undef) (a' := ?_) (bz 33 33554431) rfl rfl (any_of HT_.out (by kernel_rfl)) (fun _ _ _ h => h) (Or.inr ⟨by rfl, rfl⟩) ?_ ?_
              rotate_left
              ·simp only [Act.put, ls1, ls2, ls3, i64_w, i32_w]
               rfl
              refine pure_ (i := 25) (N := some 94) (v := undef) (a' := ?_) (bz 33 67108863) rfl rfl (any_of HT_.out (by kernel_rfl)) (fun _ _ _ h => h) (Or.inr ⟨by rfl, rfl⟩) ?_ ?_
              rotate_left
              ·simp only [Act.put, ls1, ls2, ls3, i64_w, i32_w]
               rfl
              refine pure_ (i := 26) (N := some 95) (v := undef) (a' := ?_) (bz 33 134217727) rfl rfl (any_of HT_.out (by kernel_rfl)) (fun _ _ _ h => h) (Or.inr ⟨by rfl, rfl⟩) ?_ ?_
              rotate_left
              ·simp only [Act.put, ls1, ls2, ls3, i64_w, i32_w]
               rfl
              refine pure_ (i := 27) (N := some 96) (v := undef) (a' := ?_) (bz 33 268435455) rfl rfl (any_of HT_.out (by kernel_rfl)) (fun _ _ _ h => h) (Or.inr ⟨by rfl, rfl⟩) ?_ ?_
              rotate_left
              ·simp only [Act.put, ls1, ls2, ls3, i64_w, i32_w]
               rfl
              refine pure_ (i := 28) (N := some 97) (v := undef) (a' := ?_) (bz 33 536870911) rfl rfl (any_of HT_.out (by kernel_rfl)) (fun _ _ _ h => h) (Or.inr ⟨by rfl, rfl⟩) ?_ ?_
              rotate_left
              ·simp only [Act.put, ls1, ls2, ls3, i64_w, i32_w]
               rfl
              refine pure_ (i := 29) (N := some 98) (v := undef) (a' := ?_) (bz 33 1073741823) rfl rfl (any_of HT_.out (by kernel_rfl)) (fun _ _ _ h => h) (Or.inr ⟨by rfl, rfl⟩) ?_ ?_
              rotate_left
              ·simp only [Act.put, ls1, ls2, ls3, i64_w, i32_w]
               rfl
              refine pure_ (i := 30) (N := some 99) (v := undef) (a' := ?_) (bz 33 2147483647) rfl rfl (any_of HT_.out (by kernel_rfl)) (fun _ _ _ h => h) (Or.inr ⟨by rfl, rfl⟩) ?_ ?_
              rotate_left
              ·simp only [Act.put, ls1, ls2, ls3, i64_w, i32_w]
               rfl
              refine pure_ (i := 31) (N := some 100) (v := undef) (a' := ?_) (bz 33 4294967295) rfl rfl (any_of HT_.out (by kernel_rfl)) (fun _ _ _ h => h) (Or.inr ⟨by rfl, rfl⟩) ?_ ?_
              rotate_left
              ·simp only [Act.put, ls1, ls2, ls3, i64_w, i32_w]
               rfl
              refine pure_ (i := 32) (N := some 101) (v := ?_) (a' := ?_) (bz 33 8589934591) rfl rfl (any_of HT_.out (by kernel_rfl)) (fun _ _ _ h => h) (Or.inl ⟨by rfl, ?_⟩) ?_ ?_; rotate_left; (intro w'; go_simp; with_reducible rfl); rotate_left; (simp only [Act.put, ls1, ls2, ls3, i64_w, i32_w]; rfl)
              refine done_ (done_of HT_.out (by kernel_rfl)) ?_
              try go_wp2
              go_ret
              exact ⟨by first | rfl | (simp [errW_none, errW_some] <;> rfl) | (simp [*, errW_none, errW_some] <;> rfl), by repeat (first | (with_reducible first | exact HB.out | apply below_alloc | apply pw_below_drewN | apply below_drew1 | refine below_set ?_ GE291.out | refine below_set ?_ GE304.out) | exact HB.out)⟩
            ·rw [if_neg c59] at H
             exact absurd H (by simp)
           ·rw [if_neg c58] at H
            have c58b0 : decide (x9_3 < (t305.length : Int)) = false := decide_eq_false c58
            clear c58
            replace H := Option.bind_eq_some_iff.mp H
            obtain ⟨⟨t319, t320, t321⟩, A950, H⟩ := H
            replace H : ((impl_IsLand.f k3 t319 t320 t321).bind fun t325 => (if t325 = true then ((impl_CountCells.f k3 t319 t320 t321 0).bind fun t326 => ((impl_CountCells.f k3 t319 t320 t321 1).bind fun t327 => ((impl_CountCells.f k3 t319 t320 t321 2).bind fun t328 => (some ((wrap64 ((wrap64 (t326 + t327)) + t328)) == (t321.length : Int)))))) else (some true))) = some r := H
            have A95 := Aside0.mk A950
            clear A950
            replace H := Option.bind_eq_some_iff.mp H
            obtain ⟨t325, A960, H⟩ := H
            replace H : (if t325 = true then ((impl_CountCells.f k3 t319 t320 t321 0).bind fun t326 => ((impl_CountCells.f k3 t319 t320 t321 1).bind fun t327 => ((impl_CountCells.f k3 t319 t320 t321 2).bind fun t328 => (some ((wrap64 ((wrap64 (t326 + t327)) + t328)) == (t321.length : Int)))))) else (some true)) = some r := H
            have A96 := Aside0.mk A960
            clear A960
            by_cases c97 : t325 = true
            ·subst c97
             have H1 : ((impl_CountCells.f k3 t319 t320 t321 0).bind fun t326 => ((impl_CountCells.f k3 t319 t320 t321 1).bind fun t327 => ((impl_CountCells.f k3 t319 t320 t321 2).bind fun t328 => (some ((wrap64 ((wrap64 (t326 + t327)) + t328)) == (t321.length : Int)))))) = some r := by rw [if_pos rfl] at H; exact H
             clear H
             have H := H1
             clear H1
             replace H := Option.bind_eq_some_iff.mp H
             obtain ⟨t326, A980, H⟩ := H
             replace H : ((impl_CountCells.f k3 t319 t320 t321 1).bind fun t327 => ((impl_CountCells.f k3 t319 t320 t321 2).bind fun t328 => (some ((wrap64 ((wrap64 (t326 + t327)) + t328)) == (t321.length : Int))))) = some r := H
             have A98 := Aside0.mk A980
             clear A980
             replace H := Option.bind_eq_some_iff.mp H
             obtain ⟨t327, A990, H⟩ := H
             replace H : ((impl_CountCells.f k3 t319 t320 t321 2).bind fun t328 => (some ((wrap64 ((wrap64 (t326 + t327)) + t328)) == (t321.length : Int)))) = some r := H
             have A99 := Aside0.mk A990
             clear A990
             replace H := Option.bind_eq_some_iff.mp H
             obtain ⟨t328, A1000, H⟩ := H
             replace H : (some ((wrap64 ((wrap64 (t326 + t327)) + t328)) == (t321.length : Int))) = some r := H
             have A100 := Aside0.mk A1000
             clear A1000
             obtain rfl := Option.some.inj H
             obtain ⟨Ao101, co101, eo101⟩ := Kd.R_slice HO_8.out
             subst eo101
             try go_wp2_with (first | ((with_reducible refine gate_callee (f := 78) rfl ?_); refine goesL_ (some 103) rfl rfl Try.func78 (by kernel_rfl) rfl #[.slice A0 l0.length c0] rfl (by (try simp only [List.map_toArray, List.map_cons, List.map_nil]); first | done | rfl | (simp only [List.length_drop, List.length_take]; rfl)) ?_; (with_reducible refine (spec_DrawIsLand.calls k3 _ _ l0 t319 t320 t321 _ ?side1 ?side2 A95.out).mono ?_); (case side1 => repeat (first | exact (Kd.C_below HR0.out HB.out) | (with_reducible refine Kd.C_alloc ?_ _) | (with_reducible refine Kd.C_drewN ?_ _) | (with_reducible refine Kd.C_drew ?_))); (case side2 => exact HC0.out); rintro e w102 ⟨v322, rfl, ho0, hb⟩; refine ⟨_, rfl, ?_⟩; have n0_ := Aside0.mk (Kd.R_elder' (by (with_reducible repeat (first | apply Kd.R_alloc | apply Kd.R_drewN | apply Kd.R_drew)); exact HO_8.out) (Kd.Q_base ho0) hb); have n1_ := Aside0.mk (Kd.Q_elder' (by (with_reducible repeat (first | apply Kd.Q_alloc | apply Kd.Q_drewN | apply Kd.Q_drew)); exact HO_292002.out) (Kd.Q_base ho0) hb); have n2_ := Aside0.mk (Kd.Q_elder' (by (with_reducible repeat (first | apply Kd.Q_alloc | apply Kd.Q_drewN | apply Kd.Q_drew)); exact HO_305002.out) (Kd.Q_base ho0) hb); have n3_ := Aside0.mk (Kd.Q_lower (Kd.Q_new' (Kd.Q_new' (Kd.Q_new' ho0 (Kd.R_lt (by (with_reducible repeat (first | apply Kd.R_alloc | apply Kd.R_drewN | apply Kd.R_drew)); exact HO_8.out))) (Kd.Q_lt (by (with_reducible repeat (first | apply Kd.Q_alloc | apply Kd.Q_drewN | apply Kd.Q_drew)); exact HO_292002.out))) (Kd.Q_lt (by (with_reducible repeat (first | apply Kd.Q_alloc | apply Kd.Q_drewN | apply Kd.Q_drew)); exact HO_305002.out))) (below_size (by repeat (first | (with_reducible first | exact HB.out | apply below_alloc | apply pw_below_drewN | apply below_drew1 | refine below_set ?_ GE291.out | refine below_set ?_ GE304.out) | exact HB.out)))); have n4_ := Aside0.mk (blk_below (g := gb291) (o := .cells #[.int .i64 t284, .int .i64 t285, .slice Ao20 t286.length co20] 36 (0, 0)) (by (with_reducible repeat (first | refine blk_drewN ?_ _ | refine blk_drew ?_ | refine blk_alloc ?_ _)); exact BK291.out) hb); have n5_ := Aside0.mk (blk_below (g := gb304) (o := .cells #[.int .i64 t298, .int .i64 t299, .slice Ao51 t300.length co51] 36 (0, 0)) (by (with_reducible repeat (first | refine blk_drewN ?_ _ | refine blk_drew ?_ | refine blk_alloc ?_ _)); exact BK304.out) hb); have n6_ := Aside0.mk (below_step (by repeat (first | (with_reducible first | exact HB.out | apply below_alloc | apply pw_below_drewN | apply below_drew1 | refine below_set ?_ GE291.out | refine below_set ?_ GE304.out) | exact HB.out)) hb); clear HO_8; clear HO_292002; clear HO_305002; clear BK291; clear BK304; clear HB; have HO_8 := n0_; have HO_292002 := n1_; have HO_305002 := n2_; have HO323 := n3_; have BK291 := n4_; have BK304 := n5_; have HB := n6_; clear n0_ n1_ n2_ n3_ n4_ n5_ n6_; (try clear hb); (try clear hb2); (try clear hk); (try clear hi); (try clear ho0)) | ((with_reducible refine gate_dst (N := 10) rfl ?_); (try (refine gate_guard (by rfl) ?_; dsimp only)); refine box_event ?hg (N := 10) ?hd (cs := #[.int .i64 0, .int .i64 0, .slice none 0 0]) (t := 36) ?hr ?_; (case hd => rfl); (case hg => rfl); (case hr => first | (go_simp; done) | (go_simp; rfl)); intro gb324 hg w103 hbox hb; have n0_ := Aside0.mk (Kd.R_below (by (with_reducible repeat (first | apply Kd.R_alloc | apply Kd.R_drewN | apply Kd.R_drew)); exact HO_8.out) hb); have n1_ := Aside0.mk (Kd.Q_below (by (with_reducible repeat (first | apply Kd.Q_alloc | apply Kd.Q_drewN | apply Kd.Q_drew)); exact HO_292002.out) hb); have n2_ := Aside0.mk (Kd.Q_below (by (with_reducible repeat (first | apply Kd.Q_alloc | apply Kd.Q_drewN | apply Kd.Q_drew)); exact HO_305002.out) hb); have n3_ := Aside0.mk (Kd.Q_below (by (with_reducible repeat (first | apply Kd.Q_alloc | apply Kd.Q_drewN | apply Kd.Q_drew)); exact HO323.out) hb); have n4_ := Aside0.mk (blk_below (g := gb291) (o := .cells #[.int .i64 t284, .int .i64 t285, .slice Ao20 t286.length co20] 36 (0, 0)) (by (with_reducible repeat (first | refine blk_drewN ?_ _ | refine blk_drew ?_ | refine blk_alloc ?_ _)); exact BK291.out) hb); have n5_ := Aside0.mk (blk_below (g := gb304) (o := .cells #[.int .i64 t298, .int .i64 t299, .slice Ao51 t300.length co51] 36 (0, 0)) (by (with_reducible repeat (first | refine blk_drewN ?_ _ | refine blk_drew ?_ | refine blk_alloc ?_ _)); exact BK304.out) hb); have n6_ := Aside0.mk (below_step (by repeat (first | (with_reducible first | exact HB.out | apply below_alloc | apply pw_below_drewN | apply below_drew1 | refine below_set ?_ GE291.out | refine below_set ?_ GE304.out) | exact HB.out)) hb); have n7_ := Aside0.mk (hbox); have n8_ := Aside0.mk ((by rw [hg]; exact (below_size (by repeat (first | (with_reducible first | exact HB.out | apply below_alloc | apply pw_below_drewN | apply below_drew1 | refine below_set ?_ GE291.out | refine below_set ?_ GE304.out) | exact HB.out))) : w.heap.size ≤ gb324)); have n9_ := Aside0.mk ((by rw [hg]; exact (below_size (by repeat (first | (with_reducible first | exact HB.out | apply below_alloc | apply pw_below_drewN | apply below_drew1 | refine below_set ?_ GE291.out | refine below_set ?_ GE304.out) | exact HB.out))) : w.heap.size ≤ gb324)); have n10_ := Aside0.mk ((by rw [hg]; exact Nat.ne_of_lt (blk_lt (g := gb291) (o := .cells #[.int .i64 t284, .int .i64 t285, .slice Ao20 t286.length co20] 36 (0, 0)) (by (with_reducible repeat (first | refine blk_drewN ?_ _ | refine blk_drew ?_ | refine blk_alloc ?_ _)); exact BK291.out)) : gb291 ≠ gb324)); have n11_ := Aside0.mk ((by rw [hg]; exact Nat.ne_of_gt (blk_lt (g := gb291) (o := .cells #[.int .i64 t284, .int .i64 t285, .slice Ao20 t286.length co20] 36 (0, 0)) (by (with_reducible repeat (first | refine blk_drewN ?_ _ | refine blk_drew ?_ | refine blk_alloc ?_ _)); exact BK291.out)) : gb324 ≠ gb291)); have n12_ := Aside0.mk ((by rw [hg]; exact Nat.ne_of_lt (blk_lt (g := gb304) (o := .cells #[.int .i64 t298, .int .i64 t299, .slice Ao51 t300.length co51] 36 (0, 0)) (by (with_reducible repeat (first | refine blk_drewN ?_ _ | refine blk_drew ?_ | refine blk_alloc ?_ _)); exact BK304.out)) : gb304 ≠ gb324)); have n13_ := Aside0.mk ((by rw [hg]; exact Nat.ne_of_gt (blk_lt (g := gb304) (o := .cells #[.int .i64 t298, .int .i64 t299, .slice Ao51 t300.length co51] 36 (0, 0)) (by (with_reducible repeat (first | refine blk_drewN ?_ _ | refine blk_drew ?_ | refine blk_alloc ?_ _)); exact BK304.out)) : gb324 ≠ gb304)); clear HO_8; clear HO_292002; clear HO_305002; clear HO323; clear BK291; clear BK304; clear HB; have HO_8 := n0_; have HO_292002 := n1_; have HO_305002 := n2_; have HO323 := n3_; have BK291 := n4_; have BK304 := n5_; have HB := n6_; have BK324 := n7_; have GW324 := n8_; have GE324 := n9_; have NB291_324 := n10_; have NB324_291 := n11_; have NB304_324 := n12_; have NB324_304 := n13_; clear n0_ n1_ n2_ n3_ n4_ n5_ n6_ n7_ n8_ n9_ n10_ n11_ n12_ n13_; clear hb hbox hg; have hnb104 := NB324_291.out; have hnc104 := NB291_324.out; have hnb105 := NB324_304.out; have hnc105 := NB304_324.out; have hcz106_0 : w103.cell? ⟨gb324, 0, none⟩ = some (.int .i64 0) := (blk_cell BK324.out 0).trans rfl; have hcz106_1 : w103.cell? ⟨gb324, 1, none⟩ = some (.int .i64 0) := (blk_cell BK324.out 1).trans rfl; have hcz106_2 : w103.cell? ⟨gb324, 2, none⟩ = some (.slice none 0 0) := (blk_cell BK324.out 2).trans rfl; have hfz106_0 := blk_frozen BK324.out 0; have hfz106_1 := blk_frozen BK324.out 1; have hfz106_2 := blk_frozen BK324.out 2; obtain ⟨Ao107, co107, eo107, _⟩ := Kd.Q_slice HO323.out; subst eo107))
             have n0_ : Aside0 (Kd.R (Kd.int .i64) 3 (((w103.setCell ⟨gb324, 0, none⟩ (.int .i64 t319)).setCell ⟨gb324, 1, none⟩ (.int .i64 t320)).setCell ⟨gb324, 2, none⟩ (.slice Ao107 t321.length co107)) w.heap.size (fun k_ => some k_ ≠ (.slice Ao20 t286.length co20 : Value).ownBlock ∧ some k_ ≠ (.slice Ao51 t300.length co51 : Value).ownBlock ∧ some k_ ≠ (.slice Ao107 t321.length co107 : Value).ownBlock) (.slice Ao101 t305.length co101) t305) := ⟨by (with_reducible repeat (first | apply Kd.R_alloc | apply Kd.R_drewN | apply Kd.R_drew)); exact Kd.R_mono (Kd.R_far (p := ⟨gb324, 2, none⟩) (Kd.R_far (p := ⟨gb324, 1, none⟩) (Kd.R_far (p := ⟨gb324, 0, none⟩) (Kd.R_types HO_8.out BK324.out (by decide)) (fun _ hk => hk.2) (.int .i64 t319)) (fun _ hk => hk.2) (.int .i64 t320)) (fun _ hk => hk.2) (.slice Ao107 t321.length co107)) (fun _ hk => ⟨hk.1.1.1, ⟨hk.1.1.2, hk.1.2⟩⟩)⟩
             have n1_ : Aside0 (Kd.Q (Kd.int .i64) 3 (((w103.setCell ⟨gb324, 0, none⟩ (.int .i64 t319)).setCell ⟨gb324, 1, none⟩ (.int .i64 t320)).setCell ⟨gb324, 2, none⟩ (.slice Ao107 t321.length co107)) w.heap.size (fun k_ => some k_ ≠ (.slice Ao101 t305.length co101 : Value).ownBlock ∧ some k_ ≠ (.slice Ao51 t300.length co51 : Value).ownBlock ∧ some k_ ≠ (.slice Ao107 t321.length co107 : Value).ownBlock) (.slice Ao20 t286.length co20) t286) := ⟨by (with_reducible repeat (first | apply Kd.Q_alloc | apply Kd.Q_drewN | apply Kd.Q_drew)); exact Kd.Q_mono (Kd.Q_far (p := ⟨gb324, 2, none⟩) (Kd.Q_far (p := ⟨gb324, 1, none⟩) (Kd.Q_far (p := ⟨gb324, 0, none⟩) (Kd.Q_types HO_292002.out BK324.out (by decide)) (fun _ hk => hk.2) (.int .i64 t319)) (fun _ hk => hk.2) (.int .i64 t320)) (fun _ hk => hk.2) (.slice Ao107 t321.length co107)) (fun _ hk => ⟨hk.1.1.1, ⟨hk.1.1.2, hk.1.2⟩⟩)⟩
             have n2_ : Aside0 (Kd.Q (Kd.int .i64) 3 (((w103.setCell ⟨gb324, 0, none⟩ (.int .i64 t319)).setCell ⟨gb324, 1, none⟩ (.int .i64 t320)).setCell ⟨gb324, 2, none⟩ (.slice Ao107 t321.length co107)) w.heap.size (fun k_ => some k_ ≠ (.slice Ao101 t305.length co101 : Value).ownBlock ∧ some k_ ≠ (.slice Ao20 t286.length co20 : Value).ownBlock ∧ some k_ ≠ (.slice Ao107 t321.length co107 : Value).ownBlock) (.slice Ao51 t300.length co51) t300) := ⟨by (with_reducible repeat (first | apply Kd.Q_alloc | apply Kd.Q_drewN | apply Kd.Q_drew)); exact Kd.Q_mono (Kd.Q_far (p := ⟨gb324, 2, none⟩) (Kd.Q_far (p := ⟨gb324, 1, none⟩) (Kd.Q_far (p := ⟨gb324, 0, none⟩) (Kd.Q_types HO_305002.out BK324.out (by decide)) (fun _ hk => hk.2) (.int .i64 t319)) (fun _ hk => hk.2) (.int .i64 t320)) (fun _ hk => hk.2) (.slice Ao107 t321.length co107)) (fun _ hk => ⟨hk.1.1.1, ⟨hk.1.1.2, hk.1.2⟩⟩)⟩
             have n3_ : Aside0 (Kd.Q (Kd.int .i64) 3 (((w103.setCell ⟨gb324, 0, none⟩ (.int .i64 t319)).setCell ⟨gb324, 1, none⟩ (.int .i64 t320)).setCell ⟨gb324, 2, none⟩ (.slice Ao107 t321.length co107)) w.heap.size (fun k_ => some k_ ≠ (.slice Ao101 t305.length co101 : Value).ownBlock ∧ some k_ ≠ (.slice Ao20 t286.length co20 : Value).ownBlock ∧ some k_ ≠ (.slice Ao51 t300.length co51 : Value).ownBlock) (.slice Ao107 t321.length co107) t321) := ⟨by (with_reducible repeat (first | apply Kd.Q_alloc | apply Kd.Q_drewN | apply Kd.Q_drew)); exact Kd.Q_mono (Kd.Q_far (p := ⟨gb324, 2, none⟩) (Kd.Q_far (p := ⟨gb324, 1, none⟩) (Kd.Q_far (p := ⟨gb324, 0, none⟩) (Kd.Q_types HO323.out BK324.out (by decide)) (fun _ hk => hk.2) (.int .i64 t319)) (fun _ hk => hk.2) (.int .i64 t320)) (fun _ hk => hk.2) (.slice Ao107 t321.length co107)) (fun _ hk => ⟨hk.1.1.1.2, ⟨hk.1.1.2, hk.1.2⟩⟩)⟩
             have n4_ : Aside0 ((((w103.setCell ⟨gb324, 0, none⟩ (.int .i64 t319)).setCell ⟨gb324, 1, none⟩ (.int .i64 t320)).setCell ⟨gb324, 2, none⟩ (.slice Ao107 t321.length co107)).heap[gb291]? = some (.cells #[.int .i64 t284, .int .i64 t285, .slice Ao20 t286.length co20] 36 (0, 0))) := ⟨by (with_reducible repeat (first | refine blk_drewN ?_ _ | refine blk_drew ?_ | refine blk_alloc ?_ _)); refine blk_far ?_ NB291_324.out _; (with_reducible repeat (first | refine blk_drewN ?_ _ | refine blk_drew ?_ | refine blk_alloc ?_ _)); refine blk_far ?_ NB291_324.out _; (with_reducible repeat (first | refine blk_drewN ?_ _ | refine blk_drew ?_ | refine blk_alloc ?_ _)); refine blk_far ?_ NB291_324.out _; (with_reducible repeat (first | refine blk_drewN ?_ _ | refine blk_drew ?_ | refine blk_alloc ?_ _)); exact BK291.out⟩
             have n5_ : Aside0 ((((w103.setCell ⟨gb324, 0, none⟩ (.int .i64 t319)).setCell ⟨gb324, 1, none⟩ (.int .i64 t320)).setCell ⟨gb324, 2, none⟩ (.slice Ao107 t321.length co107)).heap[gb304]? = some (.cells #[.int .i64 t298, .int .i64 t299, .slice Ao51 t300.length co51] 36 (0, 0))) := ⟨by (with_reducible repeat (first | refine blk_drewN ?_ _ | refine blk_drew ?_ | refine blk_alloc ?_ _)); refine blk_far ?_ NB304_324.out _; (with_reducible repeat (first | refine blk_drewN ?_ _ | refine blk_drew ?_ | refine blk_alloc ?_ _)); refine blk_far ?_ NB304_324.out _; (with_reducible repeat (first | refine blk_drewN ?_ _ | refine blk_drew ?_ | refine blk_alloc ?_ _)); refine blk_far ?_ NB304_324.out _; (with_reducible repeat (first | refine blk_drewN ?_ _ | refine blk_drew ?_ | refine blk_alloc ?_ _)); exact BK304.out⟩
             have n6_ : Aside0 ((((w103.setCell ⟨gb324, 0, none⟩ (.int .i64 t319)).setCell ⟨gb324, 1, none⟩ (.int .i64 t320)).setCell ⟨gb324, 2, none⟩ (.slice Ao107 t321.length co107)).heap[gb324]? = some (.cells #[.int .i64 t319, .int .i64 t320, .slice Ao107 t321.length co107] 36 (0, 0))) := ⟨by (with_reducible repeat (first | refine blk_drewN ?_ _ | refine blk_drew ?_ | refine blk_alloc ?_ _)); refine blk_put (cs := #[.int .i64 t319, .int .i64 t320, .slice none 0 0]) ?_ 2 _ rfl; (with_reducible repeat (first | refine blk_drewN ?_ _ | refine blk_drew ?_ | refine blk_alloc ?_ _)); refine blk_put (cs := #[.int .i64 t319, .int .i64 0, .slice none 0 0]) ?_ 1 _ rfl; (with_reducible repeat (first | refine blk_drewN ?_ _ | refine blk_drew ?_ | refine blk_alloc ?_ _)); refine blk_put (cs := #[.int .i64 0, .int .i64 0, .slice none 0 0]) ?_ 0 _ rfl; (with_reducible repeat (first | refine blk_drewN ?_ _ | refine blk_drew ?_ | refine blk_alloc ?_ _)); exact BK324.out⟩
             have n7_ : Aside0 (Below w.heap.size w (((w103.setCell ⟨gb324, 0, none⟩ (.int .i64 t319)).setCell ⟨gb324, 1, none⟩ (.int .i64 t320)).setCell ⟨gb324, 2, none⟩ (.slice Ao107 t321.length co107))) := ⟨by repeat (first | (with_reducible first | exact HB.out | apply below_alloc | apply pw_below_drewN | apply below_drew1 | refine below_set ?_ GE291.out | refine below_set ?_ GE304.out | refine below_set ?_ GE324.out) | exact HB.out)⟩
             (try clear HO_8)
             (try clear HO_292002)
             (try clear HO_305002)
             (try clear HO323)
             (try clear BK291)
             (try clear BK304)
             (try clear BK324)
             (try clear HB)
             generalize (((w103.setCell ⟨gb324, 0, none⟩ (.int .i64 t319)).setCell ⟨gb324, 1, none⟩ (.int .i64 t320)).setCell ⟨gb324, 2, none⟩ (.slice Ao107 t321.length co107)) = w108 at n0_ n1_ n2_ n3_ n4_ n5_ n6_ n7_ ⊢
             have HO_8 := n0_
             have HO_292002 := n1_
             have HO_305002 := n2_
             have HO323 := n3_
             have BK291 := n4_
             have BK304 := n5_
             have BK324 := n6_
             have HB := n7_
             clear n0_ n1_ n2_ n3_ n4_ n5_ n6_ n7_
             have n0_ := Aside0.mk (Kd.R_drew HO_8.out)
             have n1_ := Aside0.mk (Kd.Q_drew HO_292002.out)
             have n2_ := Aside0.mk (Kd.Q_drew HO_305002.out)
             have n3_ := Aside0.mk (Kd.Q_drew HO323.out)
             have n4_ := Aside0.mk (blk_drew BK291.out)
             have n5_ := Aside0.mk (blk_drew BK304.out)
             have n6_ := Aside0.mk (blk_drew BK324.out)
             have n7_ := Aside0.mk (below_drew1 HB.out)
             clear HO_8
             clear HO_292002
             clear HO_305002
             clear HO323
             clear BK291
             clear BK304
             clear BK324
             clear HB
             have HO_8 := n0_
             have HO_292002 := n1_
             have HO_305002 := n2_
             have HO323 := n3_
             have BK291 := n4_
             have BK304 := n5_
             have BK324 := n6_
             have HB := n7_
             clear n0_ n1_ n2_ n3_ n4_ n5_ n6_ n7_
             refine start_ (n := 18) (S := fun w' => w'.cell? ⟨gb324, 0, none⟩ = some (.int .i64 t319) ∧ w'.cell? ⟨gb324, 1, none⟩ = some (.int .i64 t320) ∧ w'.cell? ⟨gb324, 2, none⟩ = some (.slice Ao107 t321.length co107)) (ds := []) (bz 18 0) (by kernel_rfl) rfl rfl ⟨(blk_cell BK324.out 0).trans rfl, (blk_cell BK324.out 1).trans rfl, (blk_cell BK324.out 2).trans rfl⟩ (fun hHeld => ?_); refine with_tabW laws_FnLand.tab18 laws_FnLand.bits18 (fun HT_ HW_ => ?_)
             generalize w108.drew = w109 at HO_8 HO_292002 HO_305002 HO323 BK291 BK304 BK324 HB hHeld ⊢
             refine take_ (i := 0) (N := some 104) (v := ?_) (a' := ?_) (bz 18 1) rfl rfl (take_ofW HT_.out HW_.out (by kernel_rfl)) (fun _ _ _ h => h) (Or.inl ⟨by rfl, ?_⟩) hHeld ?_ ?_; rotate_left; (rintro w' ⟨s0, s1, s2⟩; go_simp; with_reducible rfl); rotate_left; (simp only [Act.put, ls1, ls2, ls3, i64_w, i32_w]; rfl)
             refine one_ (i := 1) (N := some 105) (bz 18 3) rfl rfl (one_of HT_.out (by kernel_rfl)) (by decide) (fun K hK => ?_)
             refine goes_ Try.func79 (by kernel_rfl) rfl #[.agg #[.int .i64 t319, .int .i64 t320, .slice Ao107 t321.length co107]] (by rfl) rfl rfl (by (try simp only [List.map_toArray, List.map_cons, List.map_nil]); first | done | rfl | (simp only [List.length_drop, List.length_take]; rfl)) ?_
             with_reducible refine (impl_IsLand.calls k3 t319 t320 _ _ t321 true _ ?side1 ?side2 A96.out).mono ?_
             (case side1 => repeat (first | exact (Kd.Q_reads' HO323.out).2.2 | (with_reducible refine Kd.C_alloc ?_ _) | (with_reducible refine Kd.C_drewN ?_ _) | (with_reducible refine Kd.C_drew ?_)))
             (case side2 => exact (Kd.Q_reads' HO323.out).2.1)
             rintro e w110 ⟨rfl, hb⟩
             refine ⟨_, rfl, ?_⟩
             have n0_ := Aside0.mk (Kd.R_below (by (with_reducible repeat (first | apply Kd.R_alloc | apply Kd.R_drewN | apply Kd.R_drew)); exact HO_8.out) hb)
             have n1_ := Aside0.mk (Kd.Q_below (by (with_reducible repeat (first | apply Kd.Q_alloc | apply Kd.Q_drewN | apply Kd.Q_drew)); exact HO_292002.out) hb)
             have n2_ := Aside0.mk (Kd.Q_below (by (with_reducible repeat (first | apply Kd.Q_alloc | apply Kd.Q_drewN | apply Kd.Q_drew)); exact HO_305002.out) hb)
             have n3_ := Aside0.mk (Kd.Q_below (by (with_reducible repeat (first | apply Kd.Q_alloc | apply Kd.Q_drewN | apply Kd.Q_drew)); exact HO323.out) hb)
             have n4_ := Aside0.mk (blk_below (g := gb291) (o := .cells #[.int .i64 t284, .int .i64 t285, .slice Ao20 t286.length co20] 36 (0, 0)) (by (with_reducible repeat (first | refine blk_drewN ?_ _ | refine blk_drew ?_ | refine blk_alloc ?_ _)); exact BK291.out) hb)
             have n5_ := Aside0.mk (blk_below (g := gb304) (o := .cells #[.int .i64 t298, .int .i64 t299, .slice Ao51 t300.length co51] 36 (0, 0)) (by (with_reducible repeat (first | refine blk_drewN ?_ _ | refine blk_drew ?_ | refine blk_alloc ?_ _)); exact BK304.out) hb)
             have n6_ := Aside0.mk (blk_below (g := gb324) (o := .cells #[.int .i64 t319, .int .i64 t320, .slice Ao107 t321.length co107] 36 (0, 0)) (by (with_reducible repeat (first | refine blk_drewN ?_ _ | refine blk_drew ?_ | refine blk_alloc ?_ _)); exact BK324.out) hb)
             have n7_ := Aside0.mk (below_step (by repeat (first | (with_reducible first | exact HB.out | apply below_alloc | apply pw_below_drewN | apply below_drew1 | refine below_set ?_ GE291.out | refine below_set ?_ GE304.out | refine below_set ?_ GE324.out) | exact HB.out)) hb)
             clear HO_8
             clear HO_292002
             clear HO_305002
             clear HO323
             clear BK291
             clear BK304
             clear BK324
             clear HB
             have HO_8 := n0_
             have HO_292002 := n1_
             have HO_305002 := n2_
             have HO323 := n3_
             have BK291 := n4_
             have BK304 := n5_
             have BK324 := n6_
             have HB := n7_
             clear n0_ n1_ n2_ n3_ n4_ n5_ n6_ n7_
             (try clear hb)
             (try clear hb2)
             (try clear hk)
             (try clear hi)
             refine hK.out _ _ ⟨(blk_cell BK324.out 0).trans rfl, (blk_cell BK324.out 1).trans rfl, (blk_cell BK324.out 2).trans rfl⟩ (fun hHeld => ?_)
             clear hK K
             refine norm_ (a' := ?_) ?_ ?_
             rotate_left
             ·show Act.put _ (some 105) _ = _
              simp only [Act.put, ls1, ls2, ls3, i64_w, i32_w]
              rfl
             refine pure_ (i := 2) (N := some 106) (v := ?_) (a' := ?_) (bz 18 7) rfl rfl (any_of HT_.out (by kernel_rfl)) (fun _ _ _ h => h) (Or.inl ⟨by rfl, ?_⟩) ?_ ?_; rotate_left; (intro w'; go_simp; with_reducible rfl); rotate_left; (simp only [Act.put, ls1, ls2, ls3, i64_w, i32_w]; rfl)
             refine pure_ (i := 3) (N := some 107) (v := ?_) (a' := ?_) (bz 18 15) rfl rfl (any_of HT_.out (by kernel_rfl)) (fun _ _ _ h => h) (Or.inl ⟨by rfl, ?_⟩) ?_ ?_; rotate_left; (intro w'; go_simp; with_reducible rfl); rotate_left; (simp only [Act.put, ls1, ls2, ls3, i64_w, i32_w]; rfl)
             refine pure_ (i := 12) (N := some 116) (v := ?_) (a' := ?_) (bz 18 4111) rfl rfl (any_of HT_.out (by kernel_rfl)) (fun _ _ _ h => h) (Or.inl ⟨by rfl, ?_⟩) ?_ ?_; rotate_left; (intro w'; go_simp; with_reducible rfl); rotate_left; (simp only [Act.put, ls1, ls2, ls3, i64_w, i32_w]; rfl)
             refine take_ (i := 4) (N := some 108) (v := ?_) (a' := ?_) (bz 18 4127) rfl rfl (take_ofW HT_.out HW_.out (by kernel_rfl)) (fun _ _ _ h => h) (Or.inl ⟨by rfl, ?_⟩) hHeld ?_ ?_; rotate_left; (rintro w' ⟨s0, s1, s2⟩; go_simp; with_reducible rfl); rotate_left; (simp only [Act.put, ls1, ls2, ls3, i64_w, i32_w]; rfl)
             refine take_ (i := 6) (N := some 110) (v := ?_) (a' := ?_) (bz 18 4191) rfl rfl (take_ofW HT_.out HW_.out (by kernel_rfl)) (fun _ _ _ h => h) (Or.inl ⟨by rfl, ?_⟩) hHeld ?_ ?_; rotate_left; (rintro w' ⟨s0, s1, s2⟩; go_simp; with_reducible rfl); rotate_left; (simp only [Act.put, ls1, ls2, ls3, i64_w, i32_w]; rfl)
             refine take_ (i := 9) (N := some 113) (v := ?_) (a' := ?_) (bz 18 4703) rfl rfl (take_ofW HT_.out HW_.out (by kernel_rfl)) (fun _ _ _ h => h) (Or.inl ⟨by rfl, ?_⟩) hHeld ?_ ?_; rotate_left; (rintro w' ⟨s0, s1, s2⟩; go_simp; with_reducible rfl); rotate_left; (simp only [Act.put, ls1, ls2, ls3, i64_w, i32_w]; rfl)
             refine take_ (i := 13) (N := some 117) (v := ?_) (a' := ?_) (bz 18 12895) rfl rfl (take_ofW HT_.out HW_.out (by kernel_rfl)) (fun _ _ _ h => h) (Or.inl ⟨by rfl, ?_⟩) hHeld ?_ ?_; rotate_left; (rintro w' ⟨s0, s1, s2⟩; go_simp; with_reducible rfl); rotate_left; (simp only [Act.put, ls1, ls2, ls3, i64_w, i32_w]; rfl)
             refine pure_ (i := 14) (N := some 118) (v := ?_) (a' := ?_) (bz 18 29279) rfl rfl (any_of HT_.out (by kernel_rfl)) (fun _ _ _ h => h) (Or.inl ⟨by rfl, ?_⟩) ?_ ?_; rotate_left; (intro w'; go_simp; with_reducible rfl); rotate_left; (simp only [Act.put, ls1, ls2, ls3, i64_w, i32_w]; rfl)
             refine one_ (i := 5) (N := some 109) (bz 18 29311) rfl rfl (one_of HT_.out (by kernel_rfl)) (by decide) (fun K hK => ?_)
             refine goes_ Try.func23 (by kernel_rfl) rfl #[.agg #[.int .i64 t319, .int .i64 t320, .slice Ao107 t321.length co107], .int .i64 0] (by rfl) rfl rfl (by (try simp only [List.map_toArray, List.map_cons, List.map_nil]); first | done | rfl | (simp only [List.length_drop, List.length_take]; rfl)) ?_
             with_reducible refine (impl_CountCells.calls k3 t319 t320 _ _ t321 0 t326 _ ?side1 ?side2 A98.out).mono ?_
             (case side1 => repeat (first | exact (Kd.Q_reads' HO323.out).2.2 | (with_reducible refine Kd.C_alloc ?_ _) | (with_reducible refine Kd.C_drewN ?_ _) | (with_reducible refine Kd.C_drew ?_)))
             (case side2 => exact (Kd.Q_reads' HO323.out).2.1)
             rintro e w111 ⟨rfl, hb⟩
             refine ⟨_, rfl, ?_⟩
             have n0_ := Aside0.mk (Kd.R_below (by (with_reducible repeat (first | apply Kd.R_alloc | apply Kd.R_drewN | apply Kd.R_drew)); exact HO_8.out) hb)
             have n1_ := Aside0.mk (Kd.Q_below (by (with_reducible repeat (first | apply Kd.Q_alloc | apply Kd.Q_drewN | apply Kd.Q_drew)); exact HO_292002.out) hb)
             have n2_ := Aside0.mk (Kd.Q_below (by (with_reducible repeat (first | apply Kd.Q_alloc | apply Kd.Q_drewN | apply Kd.Q_drew)); exact HO_305002.out) hb)
             have n3_ := Aside0.mk (Kd.Q_below (by (with_reducible repeat (first | apply Kd.Q_alloc | apply Kd.Q_drewN | apply Kd.Q_drew)); exact HO323.out) hb)
             have n4_ := Aside0.mk (blk_below (g := gb291) (o := .cells #[.int .i64 t284, .int .i64 t285, .slice Ao20 t286.length co20] 36 (0, 0)) (by (with_reducible repeat (first | refine blk_drewN ?_ _ | refine blk_drew ?_ | refine blk_alloc ?_ _)); exact BK291.out) hb)
             have n5_ := Aside0.mk (blk_below (g := gb304) (o := .cells #[.int .i64 t298, .int .i64 t299, .slice Ao51 t300.length co51] 36 (0, 0)) (by (with_reducible repeat (first | refine blk_drewN ?_ _ | refine blk_drew ?_ | refine blk_alloc ?_ _)); exact BK304.out) hb)
             have n6_ := Aside0.mk (blk_below (g := gb324) (o := .cells #[.int .i64 t319, .int .i64 t320, .slice Ao107 t321.length co107] 36 (0, 0)) (by (with_reducible repeat (first | refine blk_drewN ?_ _ | refine blk_drew ?_ | refine blk_alloc ?_ _)); exact BK324.out) hb)
             have n7_ := Aside0.mk (below_step (by repeat (first | (with_reducible first | exact HB.out | apply below_alloc | apply pw_below_drewN | apply below_drew1 | refine below_set ?_ GE291.out | refine below_set ?_ GE304.out | refine below_set ?_ GE324.out) | exact HB.out)) hb)
             clear HO_8
             clear HO_292002
             clear HO_305002
             clear HO323
             clear BK291
             clear BK304
             clear BK324
             clear HB
             have HO_8 := n0_
             have HO_292002 := n1_
             have HO_305002 := n2_
             have HO323 := n3_
             have BK291 := n4_
             have BK304 := n5_
             have BK324 := n6_
             have HB := n7_
             clear n0_ n1_ n2_ n3_ n4_ n5_ n6_ n7_
             (try clear hb)
             (try clear hb2)
             (try clear hk)
             (try clear hi)
             refine hK.out _ _ ⟨(blk_cell BK324.out 0).trans rfl, (blk_cell BK324.out 1).trans rfl, (blk_cell BK324.out 2).trans rfl⟩ (fun hHeld => ?_)
             clear hK K
             refine norm_ (a' := ?_) ?_ ?_
             rotate_left
             ·show Act.put _ (some 109) _ = _
              simp only [Act.put, ls1, ls2, ls3, i64_w, i32_w]
              rfl
             refine one_ (i := 7) (N := some 111) (bz 18 29439) rfl rfl (one_of HT_.out (by kernel_rfl)) (by decide) (fun K hK => ?_)
             refine goes_ Try.func23 (by kernel_rfl) rfl #[.agg #[.int .i64 t319, .int .i64 t320, .slice Ao107 t321.length co107], .int .i64 1] (by rfl) rfl rfl (by (try simp only [List.map_toArray, List.map_cons, List.map_nil]); first | done | rfl | (simp only [List.length_drop, List.length_take]; rfl)) ?_
             with_reducible refine (impl_CountCells.calls k3 t319 t320 _ _ t321 1 t327 _ ?side1 ?side2 A99.out).mono ?_
             (case side1 => repeat (first | exact (Kd.Q_reads' HO323.out).2.2 | (with_reducible refine Kd.C_alloc ?_ _) | (with_reducible refine Kd.C_drewN ?_ _) | (with_reducible refine Kd.C_drew ?_)))
             (case side2 => exact (Kd.Q_reads' HO323.out).2.1)
             rintro e w112 ⟨rfl, hb⟩
             refine ⟨_, rfl, ?_⟩
             have n0_ := Aside0.mk (Kd.R_below (by (with_reducible repeat (first | apply Kd.R_alloc | apply Kd.R_drewN | apply Kd.R_drew)); exact HO_8.out) hb)
             have n1_ := Aside0.mk (Kd.Q_below (by (with_reducible repeat (first | apply Kd.Q_alloc | apply Kd.Q_drewN | apply Kd.Q_drew)); exact HO_292002.out) hb)
             have n2_ := Aside0.mk (Kd.Q_below (by (with_reducible repeat (first | apply Kd.Q_alloc | apply Kd.Q_drewN | apply Kd.Q_drew)); exact HO_305002.out) hb)
             have n3_ := Aside0.mk (Kd.Q_below (by (with_reducible repeat (first | apply Kd.Q_alloc | apply Kd.Q_drewN | apply Kd.Q_drew)); exact HO323.out) hb)
             have n4_ := Aside0.mk (blk_below (g := gb291) (o := .cells #[.int .i64 t284, .int .i64 t285, .slice Ao20 t286.length co20] 36 (0, 0)) (by (with_reducible repeat (first | refine blk_drewN ?_ _ | refine blk_drew ?_ | refine blk_alloc ?_ _)); exact BK291.out) hb)
             have n5_ := Aside0.mk (blk_below (g := gb304) (o := .cells #[.int .i64 t298, .int .i64 t299, .slice Ao51 t300.length co51] 36 (0, 0)) (by (with_reducible repeat (first | refine blk_drewN ?_ _ | refine blk_drew ?_ | refine blk_alloc ?_ _)); exact BK304.out) hb)
             have n6_ := Aside0.mk (blk_below (g := gb324) (o := .cells #[.int .i64 t319, .int .i64 t320, .slice Ao107 t321.length co107] 36 (0, 0)) (by (with_reducible repeat (first | refine blk_drewN ?_ _ | refine blk_drew ?_ | refine blk_alloc ?_ _)); exact BK324.out) hb)
             have n7_ := Aside0.mk (below_step (by repeat (first | (with_reducible first | exact HB.out | apply below_alloc | apply pw_below_drewN | apply below_drew1 | refine below_set ?_ GE291.out | refine below_set ?_ GE304.out | refine below_set ?_ GE324.out) | exact HB.out)) hb)
             clear HO_8
             clear HO_292002
             clear HO_305002
             clear HO323
             clear BK291
             clear BK304
             clear BK324
             clear HB
             have HO_8 := n0_
             have HO_292002 := n1_
             have HO_305002 := n2_
             have HO323 := n3_
             have BK291 := n4_
             have BK304 := n5_
             have BK324 := n6_
             have HB := n7_
             clear n0_ n1_ n2_ n3_ n4_ n5_ n6_ n7_
             (try clear hb)
             (try clear hb2)
             (try clear hk)
             (try clear hi)
             refine hK.out _ _ ⟨(blk_cell BK324.out 0).trans rfl, (blk_cell BK324.out 1).trans rfl, (blk_cell BK324.out 2).trans rfl⟩ (fun hHeld => ?_)
             clear hK K
             refine norm_ (a' := ?_) ?_ ?_
             rotate_left
             ·show Act.put _ (some 111) _ = _
              simp only [Act.put, ls1, ls2, ls3, i64_w, i32_w]
              rfl
             refine pure_ (i := 8) (N := some 112) (v := ?_) (a' := ?_) (bz 18 29695) rfl rfl (any_of HT_.out (by kernel_rfl)) (fun _ _ _ h => h) (Or.inl ⟨by rfl, ?_⟩) ?_ ?_; rotate_left; (intro w'; go_simp; with_reducible rfl); rotate_left; (simp only [Act.put, ls1, ls2, ls3, i64_w, i32_w]; rfl)
             refine one_ (i := 10) (N := some 114) (bz 18 30719) rfl rfl (one_of HT_.out (by kernel_rfl)) (by decide) (fun K hK => ?_)
             refine goes_ Try.func23 (by kernel_rfl) rfl #[.agg #[.int .i64 t319, .int .i64 t320, .slice Ao107 t321.length co107], .int .i64 2] (by rfl) rfl rfl (by (try simp only [List.map_toArray, List.map_cons, List.map_nil]); first | done | rfl | (simp only [List.length_drop, List.length_take]; rfl)) ?_
             with_reducible refine (impl_CountCells.calls k3 t319 t320 _ _ t321 2 t328 _ ?side1 ?side2 A100.out).mono ?_
             (case side1 => repeat (first | exact (Kd.Q_reads' HO323.out).2.2 | (with_reducible refine Kd.C_alloc ?_ _) | (with_reducible refine Kd.C_drewN ?_ _) | (with_reducible refine Kd.C_drew ?_)))
             (case side2 => exact (Kd.Q_reads' HO323.out).2.1)
             rintro e w113 ⟨rfl, hb⟩
             refine ⟨_, rfl, ?_⟩
             have n0_ := Aside0.mk (Kd.R_below (by (with_reducible repeat (first | apply Kd.R_alloc | apply Kd.R_drewN | apply Kd.R_drew)); exact HO_8.out) hb)
             have n1_ := Aside0.mk (Kd.Q_below (by (with_reducible repeat (first | apply Kd.Q_alloc | apply Kd.Q_drewN | apply Kd.Q_drew)); exact HO_292002.out) hb)
             have n2_ := Aside0.mk (Kd.Q_below (by (with_reducible repeat (first | apply Kd.Q_alloc | apply Kd.Q_drewN | apply Kd.Q_drew)); exact HO_305002.out) hb)
             have n3_ := Aside0.mk (Kd.Q_below (by (with_reducible repeat (first | apply Kd.Q_alloc | apply Kd.Q_drewN | apply Kd.Q_drew)); exact HO323.out) hb)
             have n4_ := Aside0.mk (blk_below (g := gb291) (o := .cells #[.int .i64 t284, .int .i64 t285, .slice Ao20 t286.length co20] 36 (0, 0)) (by (with_reducible repeat (first | refine blk_drewN ?_ _ | refine blk_drew ?_ | refine blk_alloc ?_ _)); exact BK291.out) hb)
             have n5_ := Aside0.mk (blk_below (g := gb304) (o := .cells #[.int .i64 t298, .int .i64 t299, .slice Ao51 t300.length co51] 36 (0, 0)) (by (with_reducible repeat (first | refine blk_drewN ?_ _ | refine blk_drew ?_ | refine blk_alloc ?_ _)); exact BK304.out) hb)
             have n6_ := Aside0.mk (blk_below (g := gb324) (o := .cells #[.int .i64 t319, .int .i64 t320, .slice Ao107 t321.length co107] 36 (0, 0)) (by (with_reducible repeat (first | refine blk_drewN ?_ _ | refine blk_drew ?_ | refine blk_alloc ?_ _)); exact BK324.out) hb)
             have n7_ := Aside0.mk (below_step (by repeat (first | (with_reducible first | exact HB.out | apply below_alloc | apply pw_below_drewN | apply below_drew1 | refine below_set ?_ GE291.out | refine below_set ?_ GE304.out | refine below_set ?_ GE324.out) | exact HB.out)) hb)
             clear HO_8
             clear HO_292002
             clear HO_305002
             clear HO323
             clear BK291
             clear BK304
             clear BK324
             clear HB
             have HO_8 := n0_
             have HO_292002 := n1_
             have HO_305002 := n2_
             have HO323 := n3_
             have BK291 := n4_
             have BK304 := n5_
             have BK324 := n6_
             have HB := n7_
             clear n0_ n1_ n2_ n3_ n4_ n5_ n6_ n7_
             (try clear hb)
             (try clear hb2)
             (try clear hk)
             (try clear hi)
             refine hK.out _ _ ⟨(blk_cell BK324.out 0).trans rfl, (blk_cell BK324.out 1).trans rfl, (blk_cell BK324.out 2).trans rfl⟩ (fun hHeld => ?_)
             clear hK K
             refine norm_ (a' := ?_) ?_ ?_
             rotate_left
             ·show Act.put _ (some 114) _ = _
              simp only [Act.put, ls1, ls2, ls3, i64_w, i32_w]
              rfl
             refine pure_ (i := 11) (N := some 115) (v := ?_) (a' := ?_) (bz 18 32767) rfl rfl (any_of HT_.out (by kernel_rfl)) (fun _ _ _ h => h) (Or.inl ⟨by rfl, ?_⟩) ?_ ?_; rotate_left; (intro w'; go_simp; with_reducible rfl); rotate_left; (simp only [Act.put, ls1, ls2, ls3, i64_w, i32_w]; rfl)
             refine pure_ (i := 15) (N := some 119) (v := ?_) (a' := ?_) (bz 18 65535) rfl rfl (any_of HT_.out (by kernel_rfl)) (fun _ _ _ h => h) (Or.inl ⟨by rfl, ?_⟩) ?_ ?_; rotate_left; (intro w'; go_simp; with_reducible rfl); rotate_left; (simp only [Act.put, ls1, ls2, ls3, i64_w, i32_w]; rfl)
             refine pure_ (i := 16) (N := some 120) (v := ?_) (a' := ?_) (bz 18 131071) rfl rfl (any_of HT_.out (by kernel_rfl)) (fun _ _ _ h => h) (Or.inl ⟨by rfl, ?_⟩) ?_ ?_; rotate_left; (intro w'; go_simp; with_reducible rfl); rotate_left; (simp only [Act.put, ls1, ls2, ls3, i64_w, i32_w]; rfl)
             refine pure_ (i := 17) (N := some 2) (v := ?_) (a' := ?_) (bz 18 262143) rfl rfl (any_of HT_.out (by kernel_rfl)) (fun _ _ _ h => h) (Or.inl ⟨by rfl, ?_⟩) ?_ ?_; rotate_left; (intro w'; go_simp; with_reducible rfl); rotate_left; (simp only [Act.put, ls1, ls2, ls3, i64_w, i32_w]; rfl)
             refine done_ (done_of HT_.out (by kernel_rfl)) ?_
             try go_wp2
             go_ret
             exact ⟨by first | rfl | (simp [errW_none, errW_some] <;> rfl) | (simp [*, errW_none, errW_some] <;> rfl), by repeat (first | (with_reducible first | exact HB.out | apply below_alloc | apply pw_below_drewN | apply below_drew1 | refine below_set ?_ GE291.out | refine below_set ?_ GE304.out | refine below_set ?_ GE324.out) | exact HB.out)⟩
            ·replace c97 := Bool.eq_false_iff.mpr c97
             subst c97
             have H1 : (some true) = some r := by rw [if_neg (show ¬ (false = true) by decide)] at H; exact H
             clear H
             have H := H1
             clear H1
             obtain rfl := Option.some.inj H
             obtain ⟨Ao114, co114, eo114⟩ := Kd.R_slice HO_8.out
             subst eo114
             try go_wp2_with (first | ((with_reducible refine gate_callee (f := 78) rfl ?_); refine goesL_ (some 103) rfl rfl Try.func78 (by kernel_rfl) rfl #[.slice A0 l0.length c0] rfl (by (try simp only [List.map_toArray, List.map_cons, List.map_nil]); first | done | rfl | (simp only [List.length_drop, List.length_take]; rfl)) ?_; (with_reducible refine (spec_DrawIsLand.calls k3 _ _ l0 t319 t320 t321 _ ?side1 ?side2 A95.out).mono ?_); (case side1 => repeat (first | exact (Kd.C_below HR0.out HB.out) | (with_reducible refine Kd.C_alloc ?_ _) | (with_reducible refine Kd.C_drewN ?_ _) | (with_reducible refine Kd.C_drew ?_))); (case side2 => exact HC0.out); rintro e w115 ⟨v322, rfl, ho0, hb⟩; refine ⟨_, rfl, ?_⟩; have n0_ := Aside0.mk (Kd.R_elder' (by (with_reducible repeat (first | apply Kd.R_alloc | apply Kd.R_drewN | apply Kd.R_drew)); exact HO_8.out) (Kd.Q_base ho0) hb); have n1_ := Aside0.mk (Kd.Q_elder' (by (with_reducible repeat (first | apply Kd.Q_alloc | apply Kd.Q_drewN | apply Kd.Q_drew)); exact HO_292002.out) (Kd.Q_base ho0) hb); have n2_ := Aside0.mk (Kd.Q_elder' (by (with_reducible repeat (first | apply Kd.Q_alloc | apply Kd.Q_drewN | apply Kd.Q_drew)); exact HO_305002.out) (Kd.Q_base ho0) hb); have n3_ := Aside0.mk (Kd.Q_lower (Kd.Q_new' (Kd.Q_new' (Kd.Q_new' ho0 (Kd.R_lt (by (with_reducible repeat (first | apply Kd.R_alloc | apply Kd.R_drewN | apply Kd.R_drew)); exact HO_8.out))) (Kd.Q_lt (by (with_reducible repeat (first | apply Kd.Q_alloc | apply Kd.Q_drewN | apply Kd.Q_drew)); exact HO_292002.out))) (Kd.Q_lt (by (with_reducible repeat (first | apply Kd.Q_alloc | apply Kd.Q_drewN | apply Kd.Q_drew)); exact HO_305002.out))) (below_size (by repeat (first | (with_reducible first | exact HB.out | apply below_alloc | apply pw_below_drewN | apply below_drew1 | refine below_set ?_ GE291.out | refine below_set ?_ GE304.out) | exact HB.out)))); have n4_ := Aside0.mk (blk_below (g := gb291) (o := .cells #[.int .i64 t284, .int .i64 t285, .slice Ao20 t286.length co20] 36 (0, 0)) (by (with_reducible repeat (first | refine blk_drewN ?_ _ | refine blk_drew ?_ | refine blk_alloc ?_ _)); exact BK291.out) hb); have n5_ := Aside0.mk (blk_below (g := gb304) (o := .cells #[.int .i64 t298, .int .i64 t299, .slice Ao51 t300.length co51] 36 (0, 0)) (by (with_reducible repeat (first | refine blk_drewN ?_ _ | refine blk_drew ?_ | refine blk_alloc ?_ _)); exact BK304.out) hb); have n6_ := Aside0.mk (below_step (by repeat (first | (with_reducible first | exact HB.out | apply below_alloc | apply pw_below_drewN | apply below_drew1 | refine below_set ?_ GE291.out | refine below_set ?_ GE304.out) | exact HB.out)) hb); clear HO_8; clear HO_292002; clear HO_305002; clear BK291; clear BK304; clear HB; have HO_8 := n0_; have HO_292002 := n1_; have HO_305002 := n2_; have HO323 := n3_; have BK291 := n4_; have BK304 := n5_; have HB := n6_; clear n0_ n1_ n2_ n3_ n4_ n5_ n6_; (try clear hb); (try clear hb2); (try clear hk); (try clear hi); (try clear ho0)) | ((with_reducible refine gate_dst (N := 10) rfl ?_); (try (refine gate_guard (by rfl) ?_; dsimp only)); refine box_event ?hg (N := 10) ?hd (cs := #[.int .i64 0, .int .i64 0, .slice none 0 0]) (t := 36) ?hr ?_; (case hd => rfl); (case hg => rfl); (case hr => first | (go_simp; done) | (go_simp; rfl)); intro gb324 hg w116 hbox hb; have n0_ := Aside0.mk (Kd.R_below (by (with_reducible repeat (first | apply Kd.R_alloc | apply Kd.R_drewN | apply Kd.R_drew)); exact HO_8.out) hb); have n1_ := Aside0.mk (Kd.Q_below (by (with_reducible repeat (first | apply Kd.Q_alloc | apply Kd.Q_drewN | apply Kd.Q_drew)); exact HO_292002.out) hb); have n2_ := Aside0.mk (Kd.Q_below (by (with_reducible repeat (first | apply Kd.Q_alloc | apply Kd.Q_drewN | apply Kd.Q_drew)); exact HO_305002.out) hb); have n3_ := Aside0.mk (Kd.Q_below (by (with_reducible repeat (first | apply Kd.Q_alloc | apply Kd.Q_drewN | apply Kd.Q_drew)); exact HO323.out) hb); have n4_ := Aside0.mk (blk_below (g := gb291) (o := .cells #[.int .i64 t284, .int .i64 t285, .slice Ao20 t286.length co20] 36 (0, 0)) (by (with_reducible repeat (first | refine blk_drewN ?_ _ | refine blk_drew ?_ | refine blk_alloc ?_ _)); exact BK291.out) hb); have n5_ := Aside0.mk (blk_below (g := gb304) (o := .cells #[.int .i64 t298, .int .i64 t299, .slice Ao51 t300.length co51] 36 (0, 0)) (by (with_reducible repeat (first | refine blk_drewN ?_ _ | refine blk_drew ?_ | refine blk_alloc ?_ _)); exact BK304.out) hb); have n6_ := Aside0.mk (below_step (by repeat (first | (with_reducible first | exact HB.out | apply below_alloc | apply pw_below_drewN | apply below_drew1 | refine below_set ?_ GE291.out | refine below_set ?_ GE304.out) | exact HB.out)) hb); have n7_ := Aside0.mk (hbox); have n8_ := Aside0.mk ((by rw [hg]; exact (below_size (by repeat (first | (with_reducible first | exact HB.out | apply below_alloc | apply pw_below_drewN | apply below_drew1 | refine below_set ?_ GE291.out | refine below_set ?_ GE304.out) | exact HB.out))) : w.heap.size ≤ gb324)); have n9_ := Aside0.mk ((by rw [hg]; exact (below_size (by repeat (first | (with_reducible first | exact HB.out | apply below_alloc | apply pw_below_drewN | apply below_drew1 | refine below_set ?_ GE291.out | refine below_set ?_ GE304.out) | exact HB.out))) : w.heap.size ≤ gb324)); have n10_ := Aside0.mk ((by rw [hg]; exact Nat.ne_of_lt (blk_lt (g := gb291) (o := .cells #[.int .i64 t284, .int .i64 t285, .slice Ao20 t286.length co20] 36 (0, 0)) (by (with_reducible repeat (first | refine blk_drewN ?_ _ | refine blk_drew ?_ | refine blk_alloc ?_ _)); exact BK291.out)) : gb291 ≠ gb324)); have n11_ := Aside0.mk ((by rw [hg]; exact Nat.ne_of_gt (blk_lt (g := gb291) (o := .cells #[.int .i64 t284, .int .i64 t285, .slice Ao20 t286.length co20] 36 (0, 0)) (by (with_reducible repeat (first | refine blk_drewN ?_ _ | refine blk_drew ?_ | refine blk_alloc ?_ _)); exact BK291.out)) : gb324 ≠ gb291)); have n12_ := Aside0.mk ((by rw [hg]; exact Nat.ne_of_lt (blk_lt (g := gb304) (o := .cells #[.int .i64 t298, .int .i64 t299, .slice Ao51 t300.length co51] 36 (0, 0)) (by (with_reducible repeat (first | refine blk_drewN ?_ _ | refine blk_drew ?_ | refine blk_alloc ?_ _)); exact BK304.out)) : gb304 ≠ gb324)); have n13_ := Aside0.mk ((by rw [hg]; exact Nat.ne_of_gt (blk_lt (g := gb304) (o := .cells #[.int .i64 t298, .int .i64 t299, .slice Ao51 t300.length co51] 36 (0, 0)) (by (with_reducible repeat (first | refine blk_drewN ?_ _ | refine blk_drew ?_ | refine blk_alloc ?_ _)); exact BK304.out)) : gb324 ≠ gb304)); clear HO_8; clear HO_292002; clear HO_305002; clear HO323; clear BK291; clear BK304; clear HB; have HO_8 := n0_; have HO_292002 := n1_; have HO_305002 := n2_; have HO323 := n3_; have BK291 := n4_; have BK304 := n5_; have HB := n6_; have BK324 := n7_; have GW324 := n8_; have GE324 := n9_; have NB291_324 := n10_; have NB324_291 := n11_; have NB304_324 := n12_; have NB324_304 := n13_; clear n0_ n1_ n2_ n3_ n4_ n5_ n6_ n7_ n8_ n9_ n10_ n11_ n12_ n13_; clear hb hbox hg; have hnb117 := NB324_291.out; have hnc117 := NB291_324.out; have hnb118 := NB324_304.out; have hnc118 := NB304_324.out; have hcz119_0 : w116.cell? ⟨gb324, 0, none⟩ = some (.int .i64 0) := (blk_cell BK324.out 0).trans rfl; have hcz119_1 : w116.cell? ⟨gb324, 1, none⟩ = some (.int .i64 0) := (blk_cell BK324.out 1).trans rfl; have hcz119_2 : w116.cell? ⟨gb324, 2, none⟩ = some (.slice none 0 0) := (blk_cell BK324.out 2).trans rfl; have hfz119_0 := blk_frozen BK324.out 0; have hfz119_1 := blk_frozen BK324.out 1; have hfz119_2 := blk_frozen BK324.out 2; obtain ⟨Ao120, co120, eo120, _⟩ := Kd.Q_slice HO323.out; subst eo120))
             have n0_ : Aside0 (Kd.R (Kd.int .i64) 3 (((w116.setCell ⟨gb324, 0, none⟩ (.int .i64 t319)).setCell ⟨gb324, 1, none⟩ (.int .i64 t320)).setCell ⟨gb324, 2, none⟩ (.slice Ao120 t321.length co120)) w.heap.size (fun k_ => some k_ ≠ (.slice Ao20 t286.length co20 : Value).ownBlock ∧ some k_ ≠ (.slice Ao51 t300.length co51 : Value).ownBlock ∧ some k_ ≠ (.slice Ao120 t321.length co120 : Value).ownBlock) (.slice Ao114 t305.length co114) t305) := ⟨by (with_reducible repeat (first | apply Kd.R_alloc | apply Kd.R_drewN | apply Kd.R_drew)); exact Kd.R_mono (Kd.R_far (p := ⟨gb324, 2, none⟩) (Kd.R_far (p := ⟨gb324, 1, none⟩) (Kd.R_far (p := ⟨gb324, 0, none⟩) (Kd.R_types HO_8.out BK324.out (by decide)) (fun _ hk => hk.2) (.int .i64 t319)) (fun _ hk => hk.2) (.int .i64 t320)) (fun _ hk => hk.2) (.slice Ao120 t321.length co120)) (fun _ hk => ⟨hk.1.1.1, ⟨hk.1.1.2, hk.1.2⟩⟩)⟩
             have n1_ : Aside0 (Kd.Q (Kd.int .i64) 3 (((w116.setCell ⟨gb324, 0, none⟩ (.int .i64 t319)).setCell ⟨gb324, 1, none⟩ (.int .i64 t320)).setCell ⟨gb324, 2, none⟩ (.slice Ao120 t321.length co120)) w.heap.size (fun k_ => some k_ ≠ (.slice Ao114 t305.length co114 : Value).ownBlock ∧ some k_ ≠ (.slice Ao51 t300.length co51 : Value).ownBlock ∧ some k_ ≠ (.slice Ao120 t321.length co120 : Value).ownBlock) (.slice Ao20 t286.length co20) t286) := ⟨by (with_reducible repeat (first | apply Kd.Q_alloc | apply Kd.Q_drewN | apply Kd.Q_drew)); exact Kd.Q_mono (Kd.Q_far (p := ⟨gb324, 2, none⟩) (Kd.Q_far (p := ⟨gb324, 1, none⟩) (Kd.Q_far (p := ⟨gb324, 0, none⟩) (Kd.Q_types HO_292002.out BK324.out (by decide)) (fun _ hk => hk.2) (.int .i64 t319)) (fun _ hk => hk.2) (.int .i64 t320)) (fun _ hk => hk.2) (.slice Ao120 t321.length co120)) (fun _ hk => ⟨hk.1.1.1, ⟨hk.1.1.2, hk.1.2⟩⟩)⟩
             have n2_ : Aside0 (Kd.Q (Kd.int .i64) 3 (((w116.setCell ⟨gb324, 0, none⟩ (.int .i64 t319)).setCell ⟨gb324, 1, none⟩ (.int .i64 t320)).setCell ⟨gb324, 2, none⟩ (.slice Ao120 t321.length co120)) w.heap.size (fun k_ => some k_ ≠ (.slice Ao114 t305.length co114 : Value).ownBlock ∧ some k_ ≠ (.slice Ao20 t286.length co20 : Value).ownBlock ∧ some k_ ≠ (.slice Ao120 t321.length co120 : Value).ownBlock) (.slice Ao51 t300.length co51) t300) := ⟨by (with_reducible repeat (first | apply Kd.Q_alloc | apply Kd.Q_drewN | apply Kd.Q_drew)); exact Kd.Q_mono (Kd.Q_far (p := ⟨gb324, 2, none⟩) (Kd.Q_far (p := ⟨gb324, 1, none⟩) (Kd.Q_far (p := ⟨gb324, 0, none⟩) (Kd.Q_types HO_305002.out BK324.out (by decide)) (fun _ hk => hk.2) (.int .i64 t319)) (fun _ hk => hk.2) (.int .i64 t320)) (fun _ hk => hk.2) (.slice Ao120 t321.length co120)) (fun _ hk => ⟨hk.1.1.1, ⟨hk.1.1.2, hk.1.2⟩⟩)⟩
             have n3_ : Aside0 (Kd.Q (Kd.int .i64) 3 (((w116.setCell ⟨gb324, 0, none⟩ (.int .i64 t319)).setCell ⟨gb324, 1, none⟩ (.int .i64 t320)).setCell ⟨gb324, 2, none⟩ (.slice Ao120 t321.length co120)) w.heap.size (fun k_ => some k_ ≠ (.slice Ao114 t305.length co114 : Value).ownBlock ∧ some k_ ≠ (.slice Ao20 t286.length co20 : Value).ownBlock ∧ some k_ ≠ (.slice Ao51 t300.length co51 : Value).ownBlock) (.slice Ao120 t321.length co120) t321) := ⟨by (with_reducible repeat (first | apply Kd.Q_alloc | apply Kd.Q_drewN | apply Kd.Q_drew)); exact Kd.Q_mono (Kd.Q_far (p := ⟨gb324, 2, none⟩) (Kd.Q_far (p := ⟨gb324, 1, none⟩) (Kd.Q_far (p := ⟨gb324, 0, none⟩) (Kd.Q_types HO323.out BK324.out (by decide)) (fun _ hk => hk.2) (.int .i64 t319)) (fun _ hk => hk.2) (.int .i64 t320)) (fun _ hk => hk.2) (.slice Ao120 t321.length co120)) (fun _ hk => ⟨hk.1.1.1.2, ⟨hk.1.1.2, hk.1.2⟩⟩)⟩
             have n4_ : Aside0 ((((w116.setCell ⟨gb324, 0, none⟩ (.int .i64 t319)).setCell ⟨gb324, 1, none⟩ (.int .i64 t320)).setCell ⟨gb324, 2, none⟩ (.slice Ao120 t321.length co120)).heap[gb291]? = some (.cells #[.int .i64 t284, .int .i64 t285, .slice Ao20 t286.length co20] 36 (0, 0))) := ⟨by (with_reducible repeat (first | refine blk_drewN ?_ _ | refine blk_drew ?_ | refine blk_alloc ?_ _)); refine blk_far ?_ NB291_324.out _; (with_reducible repeat (first | refine blk_drewN ?_ _ | refine blk_drew ?_ | refine blk_alloc ?_ _)); refine blk_far ?_ NB291_324.out _; (with_reducible repeat (first | refine blk_drewN ?_ _ | refine blk_drew ?_ | refine blk_alloc ?_ _)); refine blk_far ?_ NB291_324.out _; (with_reducible repeat (first | refine blk_drewN ?_ _ | refine blk_drew ?_ | refine blk_alloc ?_ _)); exact BK291.out⟩
             have n5_ : Aside0 ((((w116.setCell ⟨gb324, 0, none⟩ (.int .i64 t319)).setCell ⟨gb324, 1, none⟩ (.int .i64 t320)).setCell ⟨gb324, 2, none⟩ (.slice Ao120 t321.length co120)).heap[gb304]? = some (.cells #[.int .i64 t298, .int .i64 t299, .slice Ao51 t300.length co51] 36 (0, 0))) := ⟨by (with_reducible repeat (first | refine blk_drewN ?_ _ | refine blk_drew ?_ | refine blk_alloc ?_ _)); refine blk_far ?_ NB304_324.out _; (with_reducible repeat (first | refine blk_drewN ?_ _ | refine blk_drew ?_ | refine blk_alloc ?_ _)); refine blk_far ?_ NB304_324.out _; (with_reducible repeat (first | refine blk_drewN ?_ _ | refine blk_drew ?_ | refine blk_alloc ?_ _)); refine blk_far ?_ NB304_324.out _; (with_reducible repeat (first | refine blk_drewN ?_ _ | refine blk_drew ?_ | refine blk_alloc ?_ _)); exact BK304.out⟩
             have n6_ : Aside0 ((((w116.setCell ⟨gb324, 0, none⟩ (.int .i64 t319)).setCell ⟨gb324, 1, none⟩ (.int .i64 t320)).setCell ⟨gb324, 2, none⟩ (.slice Ao120 t321.length co120)).heap[gb324]? = some (.cells #[.int .i64 t319, .int .i64 t320, .slice Ao120 t321.length co120] 36 (0, 0))) := ⟨by (with_reducible repeat (first | refine blk_drewN ?_ _ | refine blk_drew ?_ | refine blk_alloc ?_ _)); refine blk_put (cs := #[.int .i64 t319, .int .i64 t320, .slice none 0 0]) ?_ 2 _ rfl; (with_reducible repeat (first | refine blk_drewN ?_ _ | refine blk_drew ?_ | refine blk_alloc ?_ _)); refine blk_put (cs := #[.int .i64 t319, .int .i64 0, .slice none 0 0]) ?_ 1 _ rfl; (with_reducible repeat (first | refine blk_drewN ?_ _ | refine blk_drew ?_ | refine blk_alloc ?_ _)); refine blk_put (cs := #[.int .i64 0, .int .i64 0, .slice none 0 0]) ?_ 0 _ rfl; (with_reducible repeat (first | refine blk_drewN ?_ _ | refine blk_drew ?_ | refine blk_alloc ?_ _)); exact BK324.out⟩
             have n7_ : Aside0 (Below w.heap.size w (((w116.setCell ⟨gb324, 0, none⟩ (.int .i64 t319)).setCell ⟨gb324, 1, none⟩ (.int .i64 t320)).setCell ⟨gb324, 2, none⟩ (.slice Ao120 t321.length co120))) := ⟨by repeat (first | (with_reducible first | exact HB.out | apply below_alloc | apply pw_below_drewN | apply below_drew1 | refine below_set ?_ GE291.out | refine below_set ?_ GE304.out | refine below_set ?_ GE324.out) | exact HB.out)⟩
             (try clear HO_8)
             (try clear HO_292002)
             (try clear HO_305002)
             (try clear HO323)
             (try clear BK291)
             (try clear BK304)
             (try clear BK324)
             (try clear HB)
             generalize (((w116.setCell ⟨gb324, 0, none⟩ (.int .i64 t319)).setCell ⟨gb324, 1, none⟩ (.int .i64 t320)).setCell ⟨gb324, 2, none⟩ (.slice Ao120 t321.length co120)) = w121 at n0_ n1_ n2_ n3_ n4_ n5_ n6_ n7_ ⊢
             have HO_8 := n0_
             have HO_292002 := n1_
             have HO_305002 := n2_
             have HO323 := n3_
             have BK291 := n4_
             have BK304 := n5_
             have BK324 := n6_
             have HB := n7_
             clear n0_ n1_ n2_ n3_ n4_ n5_ n6_ n7_
             have n0_ := Aside0.mk (Kd.R_drew HO_8.out)
             have n1_ := Aside0.mk (Kd.Q_drew HO_292002.out)
             have n2_ := Aside0.mk (Kd.Q_drew HO_305002.out)
             have n3_ := Aside0.mk (Kd.Q_drew HO323.out)
             have n4_ := Aside0.mk (blk_drew BK291.out)
             have n5_ := Aside0.mk (blk_drew BK304.out)
             have n6_ := Aside0.mk (blk_drew BK324.out)
             have n7_ := Aside0.mk (below_drew1 HB.out)
             clear HO_8
             clear HO_292002
             clear HO_305002
             clear HO323
             clear BK291
             clear BK304
             clear BK324
             clear HB
             have HO_8 := n0_
             have HO_292002 := n1_
             have HO_305002 := n2_
             have HO323 := n3_
             have BK291 := n4_
             have BK304 := n5_
             have BK324 := n6_
             have HB := n7_
             clear n0_ n1_ n2_ n3_ n4_ n5_ n6_ n7_
             refine start_ (n := 18) (S := fun w' => w'.cell? ⟨gb324, 0, none⟩ = some (.int .i64 t319) ∧ w'.cell? ⟨gb324, 1, none⟩ = some (.int .i64 t320) ∧ w'.cell? ⟨gb324, 2, none⟩ = some (.slice Ao120 t321.length co120)) (ds := []) (bz 18 0) (by kernel_rfl) rfl rfl ⟨(blk_cell BK324.out 0).trans rfl, (blk_cell BK324.out 1).trans rfl, (blk_cell BK324.out 2).trans rfl⟩ (fun hHeld => ?_); refine with_tabW laws_FnLand.tab18 laws_FnLand.bits18 (fun HT_ HW_ => ?_)
             generalize w121.drew = w122 at HO_8 HO_292002 HO_305002 HO323 BK291 BK304 BK324 HB hHeld ⊢
             refine take_ (i := 0) (N := some 104) (v := ?_) (a' := ?_) (bz 18 1) rfl rfl (take_ofW HT_.out HW_.out (by kernel_rfl)) (fun _ _ _ h => h) (Or.inl ⟨by rfl, ?_⟩) hHeld ?_ ?_; rotate_left; (rintro w' ⟨s0, s1, s2⟩; go_simp; with_reducible rfl); rotate_left; (simp only [Act.put, ls1, ls2, ls3, i64_w, i32_w]; rfl)
             refine one_ (i := 1) (N := some 105) (bz 18 3) rfl rfl (one_of HT_.out (by kernel_rfl)) (by decide) (fun K hK => ?_)
             refine goes_ Try.func79 (by kernel_rfl) rfl #[.agg #[.int .i64 t319, .int .i64 t320, .slice Ao120 t321.length co120]] (by rfl) rfl rfl (by (try simp only [List.map_toArray, List.map_cons, List.map_nil]); first | done | rfl | (simp only [List.length_drop, List.length_take]; rfl)) ?_
             with_reducible refine (impl_IsLand.calls k3 t319 t320 _ _ t321 false _ ?side1 ?side2 A96.out).mono ?_
             (case side1 => repeat (first | exact (Kd.Q_reads' HO323.out).2.2 | (with_reducible refine Kd.C_alloc ?_ _) | (with_reducible refine Kd.C_drewN ?_ _) | (with_reducible refine Kd.C_drew ?_)))
             (case side2 => exact (Kd.Q_reads' HO323.out).2.1)
             rintro e w123 ⟨rfl, hb⟩
             refine ⟨_, rfl, ?_⟩
             have n0_ := Aside0.mk (Kd.R_below (by (with_reducible repeat (first | apply Kd.R_alloc | apply Kd.R_drewN | apply Kd.R_drew)); exact HO_8.out) hb)
             have n1_ := Aside0.mk (Kd.Q_below (by (with_reducible repeat (first | apply Kd.Q_alloc | apply Kd.Q_drewN | apply Kd.Q_drew)); exact HO_292002.out) hb)
             have n2_ := Aside0.mk (Kd.Q_below (by (with_reducible repeat (first | apply Kd.Q_alloc | apply Kd.Q_drewN | apply Kd.Q_drew)); exact HO_305002.out) hb)
             have n3_ := Aside0.mk (Kd.Q_below (by (with_reducible repeat (first | apply Kd.Q_alloc | apply Kd.Q_drewN | apply Kd.Q_drew)); exact HO323.out) hb)
             have n4_ := Aside0.mk (blk_below (g := gb291) (o := .cells #[.int .i64 t284, .int .i64 t285, .slice Ao20 t286.length co20] 36 (0, 0)) (by (with_reducible repeat (first | refine blk_drewN ?_ _ | refine blk_drew ?_ | refine blk_alloc ?_ _)); exact BK291.out) hb)
             have n5_ := Aside0.mk (blk_below (g := gb304) (o := .cells #[.int .i64 t298, .int .i64 t299, .slice Ao51 t300.length co51] 36 (0, 0)) (by (with_reducible repeat (first | refine blk_drewN ?_ _ | refine blk_drew ?_ | refine blk_alloc ?_ _)); exact BK304.out) hb)
             have n6_ := Aside0.mk (blk_below (g := gb324) (o := .cells #[.int .i64 t319, .int .i64 t320, .slice Ao120 t321.length co120] 36 (0, 0)) (by (with_reducible repeat (first | refine blk_drewN ?_ _ | refine blk_drew ?_ | refine blk_alloc ?_ _)); exact BK324.out) hb)
             have n7_ := Aside0.mk (below_step (by repeat (first | (with_reducible first | exact HB.out | apply below_alloc | apply pw_below_drewN | apply below_drew1 | refine below_set ?_ GE291.out | refine below_set ?_ GE304.out | refine below_set ?_ GE324.out) | exact HB.out)) hb)
             clear HO_8
             clear HO_292002
             clear HO_305002
             clear HO323
             clear BK291
             clear BK304
             clear BK324
             clear HB
             have HO_8 := n0_
             have HO_292002 := n1_
             have HO_305002 := n2_
             have HO323 := n3_
             have BK291 := n4_
             have BK304 := n5_
             have BK324 := n6_
             have HB := n7_
             clear n0_ n1_ n2_ n3_ n4_ n5_ n6_ n7_
             (try clear hb)
             (try clear hb2)
             (try clear hk)
             (try clear hi)
             refine hK.out _ _ ⟨(blk_cell BK324.out 0).trans rfl, (blk_cell BK324.out 1).trans rfl, (blk_cell BK324.out 2).trans rfl⟩ (fun hHeld => ?_)
             clear hK K
             refine norm_ (a' := ?_) ?_ ?_
             rotate_left
             ·show Act.put _ (some 105) _ = _
              simp only [Act.put, ls1, ls2, ls3, i64_w, i32_w]
              rfl
             refine pure_ (i := 2) (N := some 106) (v := ?_) (a' := ?_) (bz 18 7) rfl rfl (any_of HT_.out (by kernel_rfl)) (fun _ _ _ h => h) (Or.inl ⟨by rfl, ?_⟩) ?_ ?_; rotate_left; (intro w'; go_simp; with_reducible rfl); rotate_left; (simp only [Act.put, ls1, ls2, ls3, i64_w, i32_w]; rfl)
             refine pure_ (i := 3) (N := some 107) (v := ?_) (a' := ?_) (bz 18 15) rfl rfl (any_of HT_.out (by kernel_rfl)) (fun _ _ _ h => h) (Or.inl ⟨by rfl, ?_⟩) ?_ ?_; rotate_left; (intro w'; go_simp; with_reducible rfl); rotate_left; (simp only [Act.put, ls1, ls2, ls3, i64_w, i32_w]; rfl)
             refine pure_ (i := 4) (N := some 108) (v := undef) (a' := ?_) (bz 18 31) rfl rfl (any_of HT_.out (by kernel_rfl)) (fun _ _ _ h => h) (Or.inr ⟨by rfl, rfl⟩) ?_ ?_
             rotate_left
             ·simp only [Act.put, ls1, ls2, ls3, i64_w, i32_w]
              rfl
             refine pure_ (i := 5) (N := some 109) (v := undef) (a' := ?_) (bz 18 63) rfl rfl (any_of HT_.out (by kernel_rfl)) (fun _ _ _ h => h) (Or.inr ⟨by rfl, rfl⟩) ?_ ?_
             rotate_left
             ·simp only [Act.put, ls1, ls2, ls3, i64_w, i32_w]
              rfl
             refine pure_ (i := 6) (N := some 110) (v := undef) (a' := ?_) (bz 18 127) rfl rfl (any_of HT_.out (by kernel_rfl)) (fun _ _ _ h => h) (Or.inr ⟨by rfl, rfl⟩) ?_ ?_
             rotate_left
             ·simp only [Act.put, ls1, ls2, ls3, i64_w, i32_w]
              rfl
             refine pure_ (i := 7) (N := some 111) (v := undef) (a' := ?_) (bz 18 255) rfl rfl (any_of HT_.out (by kernel_rfl)) (fun _ _ _ h => h) (Or.inr ⟨by rfl, rfl⟩) ?_ ?_
             rotate_left
             ·simp only [Act.put, ls1, ls2, ls3, i64_w, i32_w]
              rfl
             refine pure_ (i := 8) (N := some 112) (v := undef) (a' := ?_) (bz 18 511) rfl rfl (any_of HT_.out (by kernel_rfl)) (fun _ _ _ h => h) (Or.inr ⟨by rfl, rfl⟩) ?_ ?_
             rotate_left
             ·simp only [Act.put, ls1, ls2, ls3, i64_w, i32_w]
              rfl
             refine pure_ (i := 9) (N := some 113) (v := undef) (a' := ?_) (bz 18 1023) rfl rfl (any_of HT_.out (by kernel_rfl)) (fun _ _ _ h => h) (Or.inr ⟨by rfl, rfl⟩) ?_ ?_
             rotate_left
             ·simp only [Act.put, ls1, ls2, ls3, i64_w, i32_w]
              rfl
             refine pure_ (i := 10) (N := some 114) (v := undef) (a' := ?_) (bz 18 2047) rfl rfl (any_of HT_.out (by kernel_rfl)) (fun _ _ _ h => h) (Or.inr ⟨by rfl, rfl⟩) ?_ ?_
             rotate_left
             ·simp only [Act.put, ls1, ls2, ls3, i64_w, i32_w]
              rfl
             refine pure_ (i := 11) (N := some 115) (v := undef) (a' := ?_) (bz 18 4095) rfl rfl (any_of HT_.out (by kernel_rfl)) (fun _ _ _ h => h) (Or.inr ⟨by rfl, rfl⟩) ?_ ?_
             rotate_left
             ·simp only [Act.put, ls1, ls2, ls3, i64_w, i32_w]
              rfl
             refine pure_ (i := 12) (N := some 116) (v := undef) (a' := ?_) (bz 18 8191) rfl rfl (any_of HT_.out (by kernel_rfl)) (fun _ _ _ h => h) (Or.inr ⟨by rfl, rfl⟩) ?_ ?_
             rotate_left
             ·simp only [Act.put, ls1, ls2, ls3, i64_w, i32_w]
              rfl
             refine pure_ (i := 13) (N := some 117) (v := undef) (a' := ?_) (bz 18 16383) rfl rfl (any_of HT_.out (by kernel_rfl)) (fun _ _ _ h => h) (Or.inr ⟨by rfl, rfl⟩) ?_ ?_
             rotate_left
             ·simp only [Act.put, ls1, ls2, ls3, i64_w, i32_w]
              rfl
             refine pure_ (i := 14) (N := some 118) (v := undef) (a' := ?_) (bz 18 32767) rfl rfl (any_of HT_.out (by kernel_rfl)) (fun _ _ _ h => h) (Or.inr ⟨by rfl, rfl⟩) ?_ ?_
             rotate_left
             ·simp only [Act.put, ls1, ls2, ls3, i64_w, i32_w]
              rfl
             refine pure_ (i := 15) (N := some 119) (v := undef) (a' := ?_) (bz 18 65535) rfl rfl (any_of HT_.out (by kernel_rfl)) (fun _ _ _ h => h) (Or.inr ⟨by rfl, rfl⟩) ?_ ?_
             rotate_left
             ·simp only [Act.put, ls1, ls2, ls3, i64_w, i32_w]
              rfl
             refine pure_ (i := 16) (N := some 120) (v := ?_) (a' := ?_) (bz 18 131071) rfl rfl (any_of HT_.out (by kernel_rfl)) (fun _ _ _ h => h) (Or.inl ⟨by rfl, ?_⟩) ?_ ?_; rotate_left; (intro w'; go_simp; with_reducible rfl); rotate_left; (simp only [Act.put, ls1, ls2, ls3, i64_w, i32_w]; rfl)
             refine pure_ (i := 17) (N := some 2) (v := ?_) (a' := ?_) (bz 18 262143) rfl rfl (any_of HT_.out (by kernel_rfl)) (fun _ _ _ h => h) (Or.inl ⟨by rfl, ?_⟩) ?_ ?_; rotate_left; (intro w'; go_simp; with_reducible rfl); rotate_left; (simp only [Act.put, ls1, ls2, ls3, i64_w, i32_w]; rfl)
             refine done_ (done_of HT_.out (by kernel_rfl)) ?_
             try go_wp2
             go_ret
             exact ⟨by first | rfl | (simp [errW_none, errW_some] <;> rfl) | (simp [*, errW_none, errW_some] <;> rfl), by repeat (first | (with_reducible first | exact HB.out | apply below_alloc | apply pw_below_drewN | apply below_drew1 | refine below_set ?_ GE291.out | refine below_set ?_ GE304.out | refine below_set ?_ GE324.out) | exact HB.out)⟩

/-- THE ONE PURE STATEMENT of laws_FnLand: yours. -/
def laws_FnLand.Pure : Prop := ∀ (l0 : List Int), l0.length ≤ maxLen → l0.length * 1 ≤ 140737488351232 → (∀ x ∈ l0, (Lit.int .u8 x).wf = true) → ∃ k, laws_FnLand.f k l0 = some true
theorem laws_FnLand.walk (P : laws_FnLand.Pure) (a0 : Option Addr) (len0 cap0 : Nat) (z0 : List Int) (w : World) (w0 : (a0 = none ∧ len0 = 0 ∧ cap0 = 0 ∧ z0 = []) ∨ ∃ x, a0 = some x ∧ len0 ≤ cap0 ∧ cap0 ≤ maxLen ∧ z0.length = cap0 ∧ (∀ i, i < z0.length → w.cell? (x.add i) = some (.int .u8 (z0.getD i 0))) ∧ ∀ n ∈ z0, (Lit.int .u8 n).wf = true) (y0 : len0 * 1 ≤ 140737488351232) :
  Calls Try.prog 13 #[.slice a0 len0 cap0] w fun e w' => e = .returned (.bool true) ∧ Below w.heap.size w w' := by
 obtain ⟨l0, rfl, hr0, hm0, hw0, hc0⟩ := ReadsInt.ofRowC w0
 obtain ⟨k, h⟩ := P l0 hm0 y0 hw0
 refine (laws_FnLand.calls k _ _ l0 true w (Kd.C_of_reads (d := (0 : Int)) (h1 := fun _ => rfl) hr0) hc0 h).mono ?_
 rintro e w' ⟨rfl, hd⟩
 exact ⟨rfl, hd⟩

end Go.Proofs.Ytoafabcopihniaa.QFnLand
