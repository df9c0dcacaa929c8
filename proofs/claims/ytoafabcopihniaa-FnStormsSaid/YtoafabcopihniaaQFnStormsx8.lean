-- Laid by a program of this session, out of the translation; Lean checks it.
import Derived.Test.YtoafabcopihniaaQFnStormsx7
namespace Go.Proofs.Ytoafabcopihniaa.QFnStorms
open Go.RowKit Go.Proofs.YtoafabcopihniaaW.PrintWords Go.Proofs.YtoafabcopihniaaW.PrintLast Go.Proofs.YtoafabcopihniaaW.PrintMore
attribute [local go_sem] max2_int min2_int max_two min_two max_three min_three max_four min_four   -- for this text's walks alone
set_option linter.unusedVariables false
set_option linter.unusedSimpArgs false

set_option maxHeartbeats 8000000 in
set_option maxRecDepth 100000 in
theorem laws_FnStorms.calls (k : Nat) (A0 : Option Addr) (c0 : Nat) (l0 : List Int) (r : Bool) (w : World) (hr0 : Kd.C (Kd.int .u8) w A0 l0.length l0) (hc0 : l0.length ≤ c0) (h : laws_FnStorms.f k l0 = some r) :
  Calls Try.prog 9 #[.slice A0 l0.length c0] w fun e w' => e = .returned (.bool r) ∧ Below w.heap.size w w' := by
 have hu26 := Try.underlying26
 have HR0 := am_ hr0
 have HC0 := am_ hc0
 clear hr0 hc0
 have HB := am_ (Below.refl w.heap.size w)
 have H : ((laws_big.f l0).bind fun t296 => (if t296 = true then (some true) else ((spec_DrawWorstDays.f k l0).bind fun bt297 => ((impl_WorstDays.f k bt297.1 bt297.2.1 bt297.2.2.1 bt297.2.2.2).bind fun t304 => ((impl_IsRule.f bt297.1 bt297.2.1).bind fun t305 => (if t305 = true then (if bt297.2.2.2 ≥ 0 then (if bt297.2.2.2 ≤ 200 then (if ((decide (t304 ≥ 0)) != (decide ((bt297.2.2.1.length : Int) ≤ 400))) = true then (laws_FnStorms.j0 k l0 bt297.2.2.1 bt297.2.2.2 t304 true bt297.1 bt297.2.1) else (if t304 ≥ 0 then (laws_FnStorms.j0 k l0 bt297.2.2.1 bt297.2.2.2 t304 (decide (t304 < bt297.2.2.2)) bt297.1 bt297.2.1) else (laws_FnStorms.j0 k l0 bt297.2.2.1 bt297.2.2.2 t304 false bt297.1 bt297.2.1))) else (if ((decide (t304 ≥ 0)) != false) = true then (laws_FnStorms.j0 k l0 bt297.2.2.1 bt297.2.2.2 t304 true bt297.1 bt297.2.1) else (if t304 ≥ 0 then (laws_FnStorms.j0 k l0 bt297.2.2.1 bt297.2.2.2 t304 (decide (t304 < bt297.2.2.2)) bt297.1 bt297.2.1) else (laws_FnStorms.j0 k l0 bt297.2.2.1 bt297.2.2.2 t304 false bt297.1 bt297.2.1)))) else (if ((decide (t304 ≥ 0)) != false) = true then (laws_FnStorms.j0 k l0 bt297.2.2.1 bt297.2.2.2 t304 true bt297.1 bt297.2.1) else (if t304 ≥ 0 then (laws_FnStorms.j0 k l0 bt297.2.2.1 bt297.2.2.2 t304 (decide (t304 < bt297.2.2.2)) bt297.1 bt297.2.1) else (laws_FnStorms.j0 k l0 bt297.2.2.1 bt297.2.2.2 t304 false bt297.1 bt297.2.1)))) else (if ((decide (t304 ≥ 0)) != false) = true then (laws_FnStorms.j0 k l0 bt297.2.2.1 bt297.2.2.2 t304 true bt297.1 bt297.2.1) else (if t304 ≥ 0 then (laws_FnStorms.j0 k l0 bt297.2.2.1 bt297.2.2.2 t304 (decide (t304 < bt297.2.2.2)) bt297.1 bt297.2.1) else (laws_FnStorms.j0 k l0 bt297.2.2.1 bt297.2.2.2 t304 false bt297.1 bt297.2.1))))))))) = some r := h
 clear h
 replace H := Option.bind_eq_some_iff.mp H
 obtain ⟨t296, A20, H⟩ := H
 replace H : (if t296 = true then (some true) else ((spec_DrawWorstDays.f k l0).bind fun bt297 => ((impl_WorstDays.f k bt297.1 bt297.2.1 bt297.2.2.1 bt297.2.2.2).bind fun t304 => ((impl_IsRule.f bt297.1 bt297.2.1).bind fun t305 => (if t305 = true then (if bt297.2.2.2 ≥ 0 then (if bt297.2.2.2 ≤ 200 then (if ((decide (t304 ≥ 0)) != (decide ((bt297.2.2.1.length : Int) ≤ 400))) = true then (laws_FnStorms.j0 k l0 bt297.2.2.1 bt297.2.2.2 t304 true bt297.1 bt297.2.1) else (if t304 ≥ 0 then (laws_FnStorms.j0 k l0 bt297.2.2.1 bt297.2.2.2 t304 (decide (t304 < bt297.2.2.2)) bt297.1 bt297.2.1) else (laws_FnStorms.j0 k l0 bt297.2.2.1 bt297.2.2.2 t304 false bt297.1 bt297.2.1))) else (if ((decide (t304 ≥ 0)) != false) = true then (laws_FnStorms.j0 k l0 bt297.2.2.1 bt297.2.2.2 t304 true bt297.1 bt297.2.1) else (if t304 ≥ 0 then (laws_FnStorms.j0 k l0 bt297.2.2.1 bt297.2.2.2 t304 (decide (t304 < bt297.2.2.2)) bt297.1 bt297.2.1) else (laws_FnStorms.j0 k l0 bt297.2.2.1 bt297.2.2.2 t304 false bt297.1 bt297.2.1)))) else (if ((decide (t304 ≥ 0)) != false) = true then (laws_FnStorms.j0 k l0 bt297.2.2.1 bt297.2.2.2 t304 true bt297.1 bt297.2.1) else (if t304 ≥ 0 then (laws_FnStorms.j0 k l0 bt297.2.2.1 bt297.2.2.2 t304 (decide (t304 < bt297.2.2.2)) bt297.1 bt297.2.1) else (laws_FnStorms.j0 k l0 bt297.2.2.1 bt297.2.2.2 t304 false bt297.1 bt297.2.1)))) else (if ((decide (t304 ≥ 0)) != false) = true then (laws_FnStorms.j0 k l0 bt297.2.2.1 bt297.2.2.2 t304 true bt297.1 bt297.2.1) else (if t304 ≥ 0 then (laws_FnStorms.j0 k l0 bt297.2.2.1 bt297.2.2.2 t304 (decide (t304 < bt297.2.2.2)) bt297.1 bt297.2.1) else (laws_FnStorms.j0 k l0 bt297.2.2.1 bt297.2.2.2 t304 false bt297.1 bt297.2.1)))))))) = some r := H
 have A2 := am_ A20
 clear A20
 by_cases c3 : t296 = true
 ·subst c3
  have H1 : (some true) = some r := by rw [if_pos rfl] at H; exact H
  clear H
  have H := H1
  clear H1
  obtain rfl := Option.some.inj H
  go_enter Try.func9, Try.ntmps9
  go_wp2_with (first | ((with_reducible refine gate_callee (f := 27) rfl ?_); refine goesL_ (some 14) rfl rfl Try.func27 (by kernel_rfl) rfl #[.slice A0 l0.length c0] rfl (by (try simp only [mt_, mc_, mn_]); first | done | rfl | (simp only [ld_, lt_]; rfl)) ?_; (with_reducible refine (laws_big.calls _ _ l0 true _ ?side1 ?side2 A2.out).mono ?_); (case side1 => repeat (first | exact HR0.out | (with_reducible first | refine c1_ ?_ _ | refine c2_ ?_ _ | refine c3_ ?_))); (case side2 => exact HC0.out); rintro e w' ⟨rfl, ⟨nd, rfl⟩⟩; refine ⟨_, rfl, ?_⟩))
  go_ret
  exact ⟨by first | rfl | (simp [errW_none, errW_some] <;> rfl) | (simp [*, errW_none, errW_some] <;> rfl), by repeat (first | (with_reducible first | exact HB.out | apply b1_ | apply b2_ | apply b3_) | exact HB.out)⟩
 replace c3 := Bool.eq_false_iff.mpr c3
 subst c3
 have H1 : ((spec_DrawWorstDays.f k l0).bind fun bt297 => ((impl_WorstDays.f k bt297.1 bt297.2.1 bt297.2.2.1 bt297.2.2.2).bind fun t304 => ((impl_IsRule.f bt297.1 bt297.2.1).bind fun t305 => (if t305 = true then (if bt297.2.2.2 ≥ 0 then (if bt297.2.2.2 ≤ 200 then (if ((decide (t304 ≥ 0)) != (decide ((bt297.2.2.1.length : Int) ≤ 400))) = true then (laws_FnStorms.j0 k l0 bt297.2.2.1 bt297.2.2.2 t304 true bt297.1 bt297.2.1) else (if t304 ≥ 0 then (laws_FnStorms.j0 k l0 bt297.2.2.1 bt297.2.2.2 t304 (decide (t304 < bt297.2.2.2)) bt297.1 bt297.2.1) else (laws_FnStorms.j0 k l0 bt297.2.2.1 bt297.2.2.2 t304 false bt297.1 bt297.2.1))) else (if ((decide (t304 ≥ 0)) != false) = true then (laws_FnStorms.j0 k l0 bt297.2.2.1 bt297.2.2.2 t304 true bt297.1 bt297.2.1) else (if t304 ≥ 0 then (laws_FnStorms.j0 k l0 bt297.2.2.1 bt297.2.2.2 t304 (decide (t304 < bt297.2.2.2)) bt297.1 bt297.2.1) else (laws_FnStorms.j0 k l0 bt297.2.2.1 bt297.2.2.2 t304 false bt297.1 bt297.2.1)))) else (if ((decide (t304 ≥ 0)) != false) = true then (laws_FnStorms.j0 k l0 bt297.2.2.1 bt297.2.2.2 t304 true bt297.1 bt297.2.1) else (if t304 ≥ 0 then (laws_FnStorms.j0 k l0 bt297.2.2.1 bt297.2.2.2 t304 (decide (t304 < bt297.2.2.2)) bt297.1 bt297.2.1) else (laws_FnStorms.j0 k l0 bt297.2.2.1 bt297.2.2.2 t304 false bt297.1 bt297.2.1)))) else (if ((decide (t304 ≥ 0)) != false) = true then (laws_FnStorms.j0 k l0 bt297.2.2.1 bt297.2.2.2 t304 true bt297.1 bt297.2.1) else (if t304 ≥ 0 then (laws_FnStorms.j0 k l0 bt297.2.2.1 bt297.2.2.2 t304 (decide (t304 < bt297.2.2.2)) bt297.1 bt297.2.1) else (laws_FnStorms.j0 k l0 bt297.2.2.1 bt297.2.2.2 t304 false bt297.1 bt297.2.1))))))) = some r := by rw [if_neg (show ¬ (false = true) by decide)] at H; exact H
 clear H
 have H := H1
 clear H1
 replace H := Option.bind_eq_some_iff.mp H
 obtain ⟨⟨t297, t298, t299, t302⟩, A40, H⟩ := H
 replace H : ((impl_WorstDays.f k t297 t298 t299 t302).bind fun t304 => ((impl_IsRule.f t297 t298).bind fun t305 => (if t305 = true then (if t302 ≥ 0 then (if t302 ≤ 200 then (if ((decide (t304 ≥ 0)) != (decide ((t299.length : Int) ≤ 400))) = true then (laws_FnStorms.j0 k l0 t299 t302 t304 true t297 t298) else (if t304 ≥ 0 then (laws_FnStorms.j0 k l0 t299 t302 t304 (decide (t304 < t302)) t297 t298) else (laws_FnStorms.j0 k l0 t299 t302 t304 false t297 t298))) else (if ((decide (t304 ≥ 0)) != false) = true then (laws_FnStorms.j0 k l0 t299 t302 t304 true t297 t298) else (if t304 ≥ 0 then (laws_FnStorms.j0 k l0 t299 t302 t304 (decide (t304 < t302)) t297 t298) else (laws_FnStorms.j0 k l0 t299 t302 t304 false t297 t298)))) else (if ((decide (t304 ≥ 0)) != false) = true then (laws_FnStorms.j0 k l0 t299 t302 t304 true t297 t298) else (if t304 ≥ 0 then (laws_FnStorms.j0 k l0 t299 t302 t304 (decide (t304 < t302)) t297 t298) else (laws_FnStorms.j0 k l0 t299 t302 t304 false t297 t298)))) else (if ((decide (t304 ≥ 0)) != false) = true then (laws_FnStorms.j0 k l0 t299 t302 t304 true t297 t298) else (if t304 ≥ 0 then (laws_FnStorms.j0 k l0 t299 t302 t304 (decide (t304 < t302)) t297 t298) else (laws_FnStorms.j0 k l0 t299 t302 t304 false t297 t298)))))) = some r := H
 have A4 := am_ A40
 clear A40
 replace H := Option.bind_eq_some_iff.mp H
 obtain ⟨t304, A50, H⟩ := H
 replace H : ((impl_IsRule.f t297 t298).bind fun t305 => (if t305 = true then (if t302 ≥ 0 then (if t302 ≤ 200 then (if ((decide (t304 ≥ 0)) != (decide ((t299.length : Int) ≤ 400))) = true then (laws_FnStorms.j0 k l0 t299 t302 t304 true t297 t298) else (if t304 ≥ 0 then (laws_FnStorms.j0 k l0 t299 t302 t304 (decide (t304 < t302)) t297 t298) else (laws_FnStorms.j0 k l0 t299 t302 t304 false t297 t298))) else (if ((decide (t304 ≥ 0)) != false) = true then (laws_FnStorms.j0 k l0 t299 t302 t304 true t297 t298) else (if t304 ≥ 0 then (laws_FnStorms.j0 k l0 t299 t302 t304 (decide (t304 < t302)) t297 t298) else (laws_FnStorms.j0 k l0 t299 t302 t304 false t297 t298)))) else (if ((decide (t304 ≥ 0)) != false) = true then (laws_FnStorms.j0 k l0 t299 t302 t304 true t297 t298) else (if t304 ≥ 0 then (laws_FnStorms.j0 k l0 t299 t302 t304 (decide (t304 < t302)) t297 t298) else (laws_FnStorms.j0 k l0 t299 t302 t304 false t297 t298)))) else (if ((decide (t304 ≥ 0)) != false) = true then (laws_FnStorms.j0 k l0 t299 t302 t304 true t297 t298) else (if t304 ≥ 0 then (laws_FnStorms.j0 k l0 t299 t302 t304 (decide (t304 < t302)) t297 t298) else (laws_FnStorms.j0 k l0 t299 t302 t304 false t297 t298))))) = some r := H
 have A5 := am_ A50
 clear A50
 have HC6 := am_ H
 clear H
 go_enter Try.func9, Try.ntmps9
 go_upto_region 5 with (first | ((with_reducible refine gate_callee (f := 27) rfl ?_); refine goesL_ (some 14) rfl rfl Try.func27 (by kernel_rfl) rfl #[.slice A0 l0.length c0] rfl (by (try simp only [mt_, mc_, mn_]); first | done | rfl | (simp only [ld_, lt_]; rfl)) ?_; (with_reducible refine (laws_big.calls _ _ l0 false _ ?side1 ?side2 A2.out).mono ?_); (case side1 => repeat (first | exact HR0.out | (with_reducible first | refine c1_ ?_ _ | refine c2_ ?_ _ | refine c3_ ?_))); (case side2 => exact HC0.out); rintro e w' ⟨rfl, ⟨nd, rfl⟩⟩; refine ⟨_, rfl, ?_⟩) | ((with_reducible refine gate_callee (f := 50) rfl ?_); refine goesL_ (some 17) rfl rfl Try.func50 (by kernel_rfl) rfl #[.slice A0 l0.length c0] rfl (by (try simp only [mt_, mc_, mn_]); first | done | rfl | (simp only [ld_, lt_]; rfl)) ?_; (with_reducible refine (spec_DrawWorstDays.calls k _ _ l0 t297 t298 t299 t302 _ ?side1 ?side2 A4.out).mono ?_); (case side1 => repeat (first | exact HR0.out | (with_reducible first | refine c1_ ?_ _ | refine c2_ ?_ _ | refine c3_ ?_))); (case side2 => exact HC0.out); rintro e w7 ⟨v300, rfl, ho0, hb⟩; refine ⟨_, rfl, ?_⟩; have n0_ := am_ (Kd.R_lower ho0 (below_size (by repeat (first | (with_reducible first | exact HB.out | apply b1_ | apply b2_ | apply b3_) | exact HB.out)))); have n1_ := am_ (below_step (by repeat (first | (with_reducible first | exact HB.out | apply b1_ | apply b2_ | apply b3_) | exact HB.out)) hb); have HO301 := n0_; replace HB := n1_; clear n0_ n1_; (try clear hb); (try clear hb2); (try clear hk); (try clear hi); (try clear ho0)) | ((with_reducible refine gate_dst (N := 3) rfl ?_); (try (refine gate_guard (by rfl) ?_; dsimp only)); refine box_event ?hg (N := 3) ?hd (cs := #[.int .i64 0, .int .i64 0]) (t := 26) ?hr ?_; (case hd => rfl); (case hg => rfl); (case hr => first | (go_simp; done) | (go_simp; rfl)); intro gb303 hg w8 hbox hb; have n0_ := am_ (Kd.R_below (by (with_reducible repeat (first | apply r1_ | apply r2_ | apply r3_)); exact HO301.out) hb); have n1_ := am_ (below_step (by repeat (first | (with_reducible first | exact HB.out | apply b1_ | apply b2_ | apply b3_) | exact HB.out)) hb); have n2_ := am_ (hbox); have n3_ := am_ ((by rw [hg]; exact (below_size (by repeat (first | (with_reducible first | exact HB.out | apply b1_ | apply b2_ | apply b3_) | exact HB.out))) : w.heap.size ≤ gb303)); have n4_ := am_ ((by rw [hg]; exact (below_size (by repeat (first | (with_reducible first | exact HB.out | apply b1_ | apply b2_ | apply b3_) | exact HB.out))) : w.heap.size ≤ gb303)); replace HO301 := n0_; replace HB := n1_; have BK303 := n2_; have GW303 := n3_; have GE303 := n4_; clear n0_ n1_ n2_ n3_ n4_; clear hb hbox hg; have hcz9_0 : w8.cell? ⟨gb303, 0, none⟩ = some (.int .i64 0) := (blk_cell BK303.out 0).trans rfl; have hcz9_1 : w8.cell? ⟨gb303, 1, none⟩ = some (.int .i64 0) := (blk_cell BK303.out 1).trans rfl; have hfz9_0 := blk_frozen BK303.out 0; have hfz9_1 := blk_frozen BK303.out 1) | ((with_reducible refine gate_store (t := 26) (p := 3) rfl ?_); refine store_event (t := 26) (p := 3) (v := ?vo_w10) (w1 := ((w8.setCell ⟨gb303, 0, none⟩ (.int .i64 t297)).setCell ⟨gb303, 1, none⟩ (.int .i64 t298))) ?hg ?ho ?hn ?hr ?_; (case ho => rfl); (case hg => rfl); (case hn => rfl); (case hr => first | (go_simp; done) | (go_simp; rfl)); intro w10 hw; have n0_ : Aside0 (Kd.R Kd.bool 4 w10 w.heap.size (fun _ => True) v300 t299) := ⟨(by rw [hw]; exact (by (with_reducible repeat (first | apply r1_ | apply r2_ | apply r3_)); exact Kd.R_mono (Kd.R_far (p := ⟨gb303, 1, none⟩) (Kd.R_far (p := ⟨gb303, 0, none⟩) (Kd.R_types HO301.out BK303.out (by decide)) (fun _ hk => hk.2) (.int .i64 t297)) (fun _ hk => hk.2) (.int .i64 t298)) (fun _ hk => trivial)))⟩; have n1_ : Aside0 (w10.heap[gb303]? = some (.cells #[.int .i64 t297, .int .i64 t298] 26 (0, 0))) := ⟨(by rw [hw]; exact (by (with_reducible repeat (first | refine k1_ ?_ _ | refine k2_ ?_ | refine k3_ ?_ _)); refine blk_put (cs := #[.int .i64 t297, .int .i64 0]) ?_ 1 _ rfl; (with_reducible repeat (first | refine k1_ ?_ _ | refine k2_ ?_ | refine k3_ ?_ _)); refine blk_put (cs := #[.int .i64 0, .int .i64 0]) ?_ 0 _ rfl; (with_reducible repeat (first | refine k1_ ?_ _ | refine k2_ ?_ | refine k3_ ?_ _)); exact BK303.out))⟩; have n2_ : Aside0 (Below w.heap.size w w10) := ⟨(by rw [hw]; exact (by repeat (first | (with_reducible first | exact HB.out | apply b1_ | apply b2_ | apply b3_ | refine below_set ?_ GE303.out) | exact HB.out)))⟩; clear hw; replace HO301 := n0_; replace BK303 := n1_; replace HB := n2_; clear n0_ n1_ n2_; have hcz11_0 : w10.cell? ⟨gb303, 0, none⟩ = some (.int .i64 t297) := (blk_cell BK303.out 0).trans rfl; have hcz11_1 : w10.cell? ⟨gb303, 1, none⟩ = some (.int .i64 t298) := (blk_cell BK303.out 1).trans rfl; have hfz11_0 := blk_frozen BK303.out 0; have hfz11_1 := blk_frozen BK303.out 1; obtain ⟨Ao12, co12, eo12⟩ := Kd.R_slice HO301.out; subst eo12) | ((with_reducible refine gate_callee (f := 18) rfl ?_); refine goesL_ (some 24) rfl rfl Try.func18 (by kernel_rfl) rfl #[.agg #[.int .i64 t297, .int .i64 t298], .slice Ao12 t299.length co12, .int .i64 t302] rfl (by (try simp only [mt_, mc_, mn_]); first | done | rfl | (simp only [ld_, lt_]; rfl)) ?_; (with_reducible refine (impl_WorstDays.calls k t297 t298 (fun k_ => some k_ = (.slice Ao12 t299.length co12 : Value).ownBlock) _ _ t299 t302 t304 _ ?side1 A5.out).mono ?_); (case side1 => exact Kd.R_V (Kd.R_tight rfl (Kd.R_types (HO301.out) BK303.out (by decide)))); rintro e w13 ⟨rfl, hb⟩; refine ⟨_, rfl, ?_⟩; have n0_ := am_ (Kd.R_below (by (with_reducible repeat (first | apply r1_ | apply r2_ | apply r3_)); exact HO301.out) hb); have n1_ := am_ (blk_below (g := gb303) (o := .cells #[.int .i64 t297, .int .i64 t298] 26 (0, 0)) (by (with_reducible repeat (first | refine k1_ ?_ _ | refine k2_ ?_ | refine k3_ ?_ _)); exact BK303.out) hb); have n2_ := am_ (below_step (by repeat (first | (with_reducible first | exact HB.out | apply b1_ | apply b2_ | apply b3_ | refine below_set ?_ GE303.out) | exact HB.out)) hb); replace HO301 := n0_; replace BK303 := n1_; replace HB := n2_; clear n0_ n1_ n2_; (try clear hb); (try clear hb2); (try clear hk); (try clear hi)))
 (try simp only [Act.put, List.setIfInBounds_toArray, List.set_cons_zero, List.set_cons_succ])
 go_cut [51] (fun v51 wc => ∃ (kq : Nat) (x51_5 : Bool), v51 = .bool x51_5 ∧ Aside0 (laws_FnStorms.j0 kq l0 t299 t302 t304 x51_5 t297 t298 = some r) ∧ Aside0 (kq ≤ k) ∧ Aside0 (Kd.R Kd.bool 4 wc w.heap.size (fun _ => True) (.slice Ao12 t299.length co12) t299) ∧ Aside0 (wc.heap[gb303]? = some (.cells #[.int .i64 t297, .int .i64 t298] 26 (0, 0))) ∧ Aside0 (Below w.heap.size w wc))
 case first => as_aux_lemma =>
  have H := HC6.out
  clear HC6
  replace H := Option.bind_eq_some_iff.mp H
  obtain ⟨t305, A140, H⟩ := H
  replace H : (if t305 = true then (if t302 ≥ 0 then (if t302 ≤ 200 then (if ((decide (t304 ≥ 0)) != (decide ((t299.length : Int) ≤ 400))) = true then (laws_FnStorms.j0 k l0 t299 t302 t304 true t297 t298) else (if t304 ≥ 0 then (laws_FnStorms.j0 k l0 t299 t302 t304 (decide (t304 < t302)) t297 t298) else (laws_FnStorms.j0 k l0 t299 t302 t304 false t297 t298))) else (if ((decide (t304 ≥ 0)) != false) = true then (laws_FnStorms.j0 k l0 t299 t302 t304 true t297 t298) else (if t304 ≥ 0 then (laws_FnStorms.j0 k l0 t299 t302 t304 (decide (t304 < t302)) t297 t298) else (laws_FnStorms.j0 k l0 t299 t302 t304 false t297 t298)))) else (if ((decide (t304 ≥ 0)) != false) = true then (laws_FnStorms.j0 k l0 t299 t302 t304 true t297 t298) else (if t304 ≥ 0 then (laws_FnStorms.j0 k l0 t299 t302 t304 (decide (t304 < t302)) t297 t298) else (laws_FnStorms.j0 k l0 t299 t302 t304 false t297 t298)))) else (if ((decide (t304 ≥ 0)) != false) = true then (laws_FnStorms.j0 k l0 t299 t302 t304 true t297 t298) else (if t304 ≥ 0 then (laws_FnStorms.j0 k l0 t299 t302 t304 (decide (t304 < t302)) t297 t298) else (laws_FnStorms.j0 k l0 t299 t302 t304 false t297 t298)))) = some r := H
  have A14 := am_ A140
  clear A140
  by_cases c15 : t305 = true
  rotate_left
  ·replace c15 := Bool.eq_false_iff.mpr c15
   subst c15
   have H1 : (if ((decide (t304 ≥ 0)) != false) = true then (laws_FnStorms.j0 k l0 t299 t302 t304 true t297 t298) else (if t304 ≥ 0 then (laws_FnStorms.j0 k l0 t299 t302 t304 (decide (t304 < t302)) t297 t298) else (laws_FnStorms.j0 k l0 t299 t302 t304 false t297 t298))) = some r := by rw [if_neg (show ¬ (false = true) by decide)] at H; exact H
   clear H
   have H := H1
   clear H1
   by_cases c42 : ((decide (t304 ≥ 0)) != false) = true
   ·rw [if_pos c42] at H
    have c42b0 : ((decide (t304 ≥ 0)) != false) = true := c42
    (try (have c42b1 : decide ((decide (t304 ≥ 0)) = false) = false := by simpa using c42))
    (try (have c42b2 : ((decide (t304 ≥ 0)) == false) = false := by simpa using c42))
    (try (have c42b3 : ¬ ((decide (t304 ≥ 0)) = false) := by simpa using c42))
    clear c42
    have H' := am_ H
    clear H
    have hcz43_0 : w13.cell? ⟨gb303, 0, none⟩ = some (.int .i64 t297) := (blk_cell BK303.out 0).trans rfl
    have hcz43_1 : w13.cell? ⟨gb303, 1, none⟩ = some (.int .i64 t298) := (blk_cell BK303.out 1).trans rfl
    have hfz43_0 := blk_frozen BK303.out 0
    have hfz43_1 := blk_frozen BK303.out 1
    go_wp2_with (first | ((with_reducible refine gate_callee (f := 51) rfl ?_); refine goesL_ (some 28) rfl rfl Try.func51 (by kernel_rfl) rfl #[.agg #[.int .i64 t297, .int .i64 t298]] rfl (by (try simp only [mt_, mc_, mn_]); first | done | rfl | (simp only [ld_, lt_]; rfl)) ?_; (with_reducible refine (impl_IsRule.calls t297 t298 false _ A14.out).mono ?_); rintro e w44 ⟨rfl, hb⟩; refine ⟨_, rfl, ?_⟩; have n0_ := am_ (Kd.R_below (by (with_reducible repeat (first | apply r1_ | apply r2_ | apply r3_)); exact HO301.out) hb); have n1_ := am_ (blk_below (g := gb303) (o := .cells #[.int .i64 t297, .int .i64 t298] 26 (0, 0)) (by (with_reducible repeat (first | refine k1_ ?_ _ | refine k2_ ?_ | refine k3_ ?_ _)); exact BK303.out) hb); have n2_ := am_ (below_step (by repeat (first | (with_reducible first | exact HB.out | apply b1_ | apply b2_ | apply b3_ | refine below_set ?_ GE303.out) | exact HB.out)) hb); replace HO301 := n0_; replace BK303 := n1_; replace HB := n2_; clear n0_ n1_ n2_; (try clear hb); (try clear hb2); (try clear hk); (try clear hi)))
    go_meet
    case rel => exact ⟨_, (true), (by first | rfl | (simp; done) | (simp [*]; done)), H', ⟨by first | omega | exact Nat.le_refl _⟩, ⟨by (with_reducible repeat (first | apply r1_ | apply r2_ | apply r3_)); exact HO301.out⟩, ⟨by (with_reducible repeat (first | refine k1_ ?_ _ | refine k2_ ?_ | refine k3_ ?_ _)); exact BK303.out⟩, ⟨by repeat (first | (with_reducible first | exact HB.out | apply b1_ | apply b2_ | apply b3_ | refine below_set ?_ GE303.out) | exact HB.out)⟩⟩
   rw [if_neg c42] at H
   have c42b0 : ((decide (t304 ≥ 0)) != false) = false := by simpa using c42
   (try (have c42b1 : decide ((decide (t304 ≥ 0)) = false) = true := by simpa using c42))
   (try (have c42b2 : ((decide (t304 ≥ 0)) == false) = true := by simpa using c42))
   clear c42
   by_cases c45 : t304 ≥ 0
   ·exact absurd c42b0 (by simp [c45])
   rw [if_neg c45] at H
   have c45b0 : decide (0 ≤ t304) = false := decide_eq_false c45
   clear c45
   have H' := am_ H
   clear H
   have hcz48_0 : w13.cell? ⟨gb303, 0, none⟩ = some (.int .i64 t297) := (blk_cell BK303.out 0).trans rfl
   have hcz48_1 : w13.cell? ⟨gb303, 1, none⟩ = some (.int .i64 t298) := (blk_cell BK303.out 1).trans rfl
   have hfz48_0 := blk_frozen BK303.out 0
   have hfz48_1 := blk_frozen BK303.out 1
   go_wp2_with (first | ((with_reducible refine gate_callee (f := 51) rfl ?_); refine goesL_ (some 28) rfl rfl Try.func51 (by kernel_rfl) rfl #[.agg #[.int .i64 t297, .int .i64 t298]] rfl (by (try simp only [mt_, mc_, mn_]); first | done | rfl | (simp only [ld_, lt_]; rfl)) ?_; (with_reducible refine (impl_IsRule.calls t297 t298 false _ A14.out).mono ?_); rintro e w49 ⟨rfl, hb⟩; refine ⟨_, rfl, ?_⟩; have n0_ := am_ (Kd.R_below (by (with_reducible repeat (first | apply r1_ | apply r2_ | apply r3_)); exact HO301.out) hb); have n1_ := am_ (blk_below (g := gb303) (o := .cells #[.int .i64 t297, .int .i64 t298] 26 (0, 0)) (by (with_reducible repeat (first | refine k1_ ?_ _ | refine k2_ ?_ | refine k3_ ?_ _)); exact BK303.out) hb); have n2_ := am_ (below_step (by repeat (first | (with_reducible first | exact HB.out | apply b1_ | apply b2_ | apply b3_ | refine below_set ?_ GE303.out) | exact HB.out)) hb); replace HO301 := n0_; replace BK303 := n1_; replace HB := n2_; clear n0_ n1_ n2_; (try clear hb); (try clear hb2); (try clear hk); (try clear hi)))
   go_meet
   case rel => exact ⟨_, (false), (by first | rfl | (simp; done) | (simp [*]; done)), H', ⟨by first | omega | exact Nat.le_refl _⟩, ⟨by (with_reducible repeat (first | apply r1_ | apply r2_ | apply r3_)); exact HO301.out⟩, ⟨by (with_reducible repeat (first | refine k1_ ?_ _ | refine k2_ ?_ | refine k3_ ?_ _)); exact BK303.out⟩, ⟨by repeat (first | (with_reducible first | exact HB.out | apply b1_ | apply b2_ | apply b3_ | refine below_set ?_ GE303.out) | exact HB.out)⟩⟩
  subst c15
  have H1 : (if t302 ≥ 0 then (if t302 ≤ 200 then (if ((decide (t304 ≥ 0)) != (decide ((t299.length : Int) ≤ 400))) = true then (laws_FnStorms.j0 k l0 t299 t302 t304 true t297 t298) else (if t304 ≥ 0 then (laws_FnStorms.j0 k l0 t299 t302 t304 (decide (t304 < t302)) t297 t298) else (laws_FnStorms.j0 k l0 t299 t302 t304 false t297 t298))) else (if ((decide (t304 ≥ 0)) != false) = true then (laws_FnStorms.j0 k l0 t299 t302 t304 true t297 t298) else (if t304 ≥ 0 then (laws_FnStorms.j0 k l0 t299 t302 t304 (decide (t304 < t302)) t297 t298) else (laws_FnStorms.j0 k l0 t299 t302 t304 false t297 t298)))) else (if ((decide (t304 ≥ 0)) != false) = true then (laws_FnStorms.j0 k l0 t299 t302 t304 true t297 t298) else (if t304 ≥ 0 then (laws_FnStorms.j0 k l0 t299 t302 t304 (decide (t304 < t302)) t297 t298) else (laws_FnStorms.j0 k l0 t299 t302 t304 false t297 t298)))) = some r := by rw [if_pos rfl] at H; exact H
  clear H
  have H := H1
  clear H1
  by_cases c16 : t302 ≥ 0
  rotate_left
  ·rw [if_neg c16] at H
   have c16b0 : decide (0 ≤ t302) = false := decide_eq_false c16
   clear c16
   (first | rw [c16b0] | (simp only [i64_w, i32_w]; rw [c16b0]) | skip)
   by_cases c34 : ((decide (t304 ≥ 0)) != false) = true
   ·rw [if_pos c34] at H
    have c34b0 : ((decide (t304 ≥ 0)) != false) = true := c34
    (try (have c34b1 : decide ((decide (t304 ≥ 0)) = false) = false := by simpa using c34))
    (try (have c34b2 : ((decide (t304 ≥ 0)) == false) = false := by simpa using c34))
    (try (have c34b3 : ¬ ((decide (t304 ≥ 0)) = false) := by simpa using c34))
    clear c34
    have H' := am_ H
    clear H
    have hcz35_0 : w13.cell? ⟨gb303, 0, none⟩ = some (.int .i64 t297) := (blk_cell BK303.out 0).trans rfl
    have hcz35_1 : w13.cell? ⟨gb303, 1, none⟩ = some (.int .i64 t298) := (blk_cell BK303.out 1).trans rfl
    have hfz35_0 := blk_frozen BK303.out 0
    have hfz35_1 := blk_frozen BK303.out 1
    go_wp2_with (first | ((with_reducible refine gate_callee (f := 51) rfl ?_); refine goesL_ (some 28) rfl rfl Try.func51 (by kernel_rfl) rfl #[.agg #[.int .i64 t297, .int .i64 t298]] rfl (by (try simp only [mt_, mc_, mn_]); first | done | rfl | (simp only [ld_, lt_]; rfl)) ?_; (with_reducible refine (impl_IsRule.calls t297 t298 true _ A14.out).mono ?_); rintro e w36 ⟨rfl, hb⟩; refine ⟨_, rfl, ?_⟩; have n0_ := am_ (Kd.R_below (by (with_reducible repeat (first | apply r1_ | apply r2_ | apply r3_)); exact HO301.out) hb); have n1_ := am_ (blk_below (g := gb303) (o := .cells #[.int .i64 t297, .int .i64 t298] 26 (0, 0)) (by (with_reducible repeat (first | refine k1_ ?_ _ | refine k2_ ?_ | refine k3_ ?_ _)); exact BK303.out) hb); have n2_ := am_ (below_step (by repeat (first | (with_reducible first | exact HB.out | apply b1_ | apply b2_ | apply b3_ | refine below_set ?_ GE303.out) | exact HB.out)) hb); replace HO301 := n0_; replace BK303 := n1_; replace HB := n2_; clear n0_ n1_ n2_; (try clear hb); (try clear hb2); (try clear hk); (try clear hi)))
    go_meet
    case rel => exact ⟨_, (true), (by first | rfl | (simp; done) | (simp [*]; done)), H', ⟨by first | omega | exact Nat.le_refl _⟩, ⟨by (with_reducible repeat (first | apply r1_ | apply r2_ | apply r3_)); exact HO301.out⟩, ⟨by (with_reducible repeat (first | refine k1_ ?_ _ | refine k2_ ?_ | refine k3_ ?_ _)); exact BK303.out⟩, ⟨by repeat (first | (with_reducible first | exact HB.out | apply b1_ | apply b2_ | apply b3_ | refine below_set ?_ GE303.out) | exact HB.out)⟩⟩
   rw [if_neg c34] at H
   have c34b0 : ((decide (t304 ≥ 0)) != false) = false := by simpa using c34
   (try (have c34b1 : decide ((decide (t304 ≥ 0)) = false) = true := by simpa using c34))
   (try (have c34b2 : ((decide (t304 ≥ 0)) == false) = true := by simpa using c34))
   clear c34
   by_cases c37 : t304 ≥ 0
   ·exact absurd c34b0 (by simp [c37])
   rw [if_neg c37] at H
   have c37b0 : decide (0 ≤ t304) = false := decide_eq_false c37
   clear c37
   have H' := am_ H
   clear H
   have hcz40_0 : w13.cell? ⟨gb303, 0, none⟩ = some (.int .i64 t297) := (blk_cell BK303.out 0).trans rfl
   have hcz40_1 : w13.cell? ⟨gb303, 1, none⟩ = some (.int .i64 t298) := (blk_cell BK303.out 1).trans rfl
   have hfz40_0 := blk_frozen BK303.out 0
   have hfz40_1 := blk_frozen BK303.out 1
   go_wp2_with (first | ((with_reducible refine gate_callee (f := 51) rfl ?_); refine goesL_ (some 28) rfl rfl Try.func51 (by kernel_rfl) rfl #[.agg #[.int .i64 t297, .int .i64 t298]] rfl (by (try simp only [mt_, mc_, mn_]); first | done | rfl | (simp only [ld_, lt_]; rfl)) ?_; (with_reducible refine (impl_IsRule.calls t297 t298 true _ A14.out).mono ?_); rintro e w41 ⟨rfl, hb⟩; refine ⟨_, rfl, ?_⟩; have n0_ := am_ (Kd.R_below (by (with_reducible repeat (first | apply r1_ | apply r2_ | apply r3_)); exact HO301.out) hb); have n1_ := am_ (blk_below (g := gb303) (o := .cells #[.int .i64 t297, .int .i64 t298] 26 (0, 0)) (by (with_reducible repeat (first | refine k1_ ?_ _ | refine k2_ ?_ | refine k3_ ?_ _)); exact BK303.out) hb); have n2_ := am_ (below_step (by repeat (first | (with_reducible first | exact HB.out | apply b1_ | apply b2_ | apply b3_ | refine below_set ?_ GE303.out) | exact HB.out)) hb); replace HO301 := n0_; replace BK303 := n1_; replace HB := n2_; clear n0_ n1_ n2_; (try clear hb); (try clear hb2); (try clear hk); (try clear hi)))
   go_meet
   case rel => exact ⟨_, (false), (by first | rfl | (simp; done) | (simp [*]; done)), H', ⟨by first | omega | exact Nat.le_refl _⟩, ⟨by (with_reducible repeat (first | apply r1_ | apply r2_ | apply r3_)); exact HO301.out⟩, ⟨by (with_reducible repeat (first | refine k1_ ?_ _ | refine k2_ ?_ | refine k3_ ?_ _)); exact BK303.out⟩, ⟨by repeat (first | (with_reducible first | exact HB.out | apply b1_ | apply b2_ | apply b3_ | refine below_set ?_ GE303.out) | exact HB.out)⟩⟩
  rw [if_pos c16] at H
  have c16b0 : decide (0 ≤ t302) = true := decide_eq_true c16
  clear c16
  (first | rw [c16b0] | (simp only [i64_w, i32_w]; rw [c16b0]) | skip)
  by_cases c17 : t302 ≤ 200
  rotate_left
  ·rw [if_neg c17] at H
   have c17b0 : decide (t302 ≤ 200) = false := decide_eq_false c17
   clear c17
   by_cases c26 : ((decide (t304 ≥ 0)) != false) = true
   ·rw [if_pos c26] at H
    have c26b0 : ((decide (t304 ≥ 0)) != false) = true := c26
    (try (have c26b1 : decide ((decide (t304 ≥ 0)) = false) = false := by simpa using c26))
    (try (have c26b2 : ((decide (t304 ≥ 0)) == false) = false := by simpa using c26))
    (try (have c26b3 : ¬ ((decide (t304 ≥ 0)) = false) := by simpa using c26))
    clear c26
    have H' := am_ H
    clear H
    have hcz27_0 : w13.cell? ⟨gb303, 0, none⟩ = some (.int .i64 t297) := (blk_cell BK303.out 0).trans rfl
    have hcz27_1 : w13.cell? ⟨gb303, 1, none⟩ = some (.int .i64 t298) := (blk_cell BK303.out 1).trans rfl
    have hfz27_0 := blk_frozen BK303.out 0
    have hfz27_1 := blk_frozen BK303.out 1
    go_wp2_with (first | ((with_reducible refine gate_callee (f := 51) rfl ?_); refine goesL_ (some 28) rfl rfl Try.func51 (by kernel_rfl) rfl #[.agg #[.int .i64 t297, .int .i64 t298]] rfl (by (try simp only [mt_, mc_, mn_]); first | done | rfl | (simp only [ld_, lt_]; rfl)) ?_; (with_reducible refine (impl_IsRule.calls t297 t298 true _ A14.out).mono ?_); rintro e w28 ⟨rfl, hb⟩; refine ⟨_, rfl, ?_⟩; have n0_ := am_ (Kd.R_below (by (with_reducible repeat (first | apply r1_ | apply r2_ | apply r3_)); exact HO301.out) hb); have n1_ := am_ (blk_below (g := gb303) (o := .cells #[.int .i64 t297, .int .i64 t298] 26 (0, 0)) (by (with_reducible repeat (first | refine k1_ ?_ _ | refine k2_ ?_ | refine k3_ ?_ _)); exact BK303.out) hb); have n2_ := am_ (below_step (by repeat (first | (with_reducible first | exact HB.out | apply b1_ | apply b2_ | apply b3_ | refine below_set ?_ GE303.out) | exact HB.out)) hb); replace HO301 := n0_; replace BK303 := n1_; replace HB := n2_; clear n0_ n1_ n2_; (try clear hb); (try clear hb2); (try clear hk); (try clear hi)))
    go_meet
    case rel => exact ⟨_, (true), (by first | rfl | (simp; done) | (simp [*]; done)), H', ⟨by first | omega | exact Nat.le_refl _⟩, ⟨by (with_reducible repeat (first | apply r1_ | apply r2_ | apply r3_)); exact HO301.out⟩, ⟨by (with_reducible repeat (first | refine k1_ ?_ _ | refine k2_ ?_ | refine k3_ ?_ _)); exact BK303.out⟩, ⟨by repeat (first | (with_reducible first | exact HB.out | apply b1_ | apply b2_ | apply b3_ | refine below_set ?_ GE303.out) | exact HB.out)⟩⟩
   rw [if_neg c26] at H
   have c26b0 : ((decide (t304 ≥ 0)) != false) = false := by simpa using c26
   (try (have c26b1 : decide ((decide (t304 ≥ 0)) = false) = true := by simpa using c26))
   (try (have c26b2 : ((decide (t304 ≥ 0)) == false) = true := by simpa using c26))
   clear c26
   by_cases c29 : t304 ≥ 0
   ·exact absurd c26b0 (by simp [c29])
   rw [if_neg c29] at H
   have c29b0 : decide (0 ≤ t304) = false := decide_eq_false c29
   clear c29
   have H' := am_ H
   clear H
   have hcz32_0 : w13.cell? ⟨gb303, 0, none⟩ = some (.int .i64 t297) := (blk_cell BK303.out 0).trans rfl
   have hcz32_1 : w13.cell? ⟨gb303, 1, none⟩ = some (.int .i64 t298) := (blk_cell BK303.out 1).trans rfl
   have hfz32_0 := blk_frozen BK303.out 0
   have hfz32_1 := blk_frozen BK303.out 1
   go_wp2_with (first | ((with_reducible refine gate_callee (f := 51) rfl ?_); refine goesL_ (some 28) rfl rfl Try.func51 (by kernel_rfl) rfl #[.agg #[.int .i64 t297, .int .i64 t298]] rfl (by (try simp only [mt_, mc_, mn_]); first | done | rfl | (simp only [ld_, lt_]; rfl)) ?_; (with_reducible refine (impl_IsRule.calls t297 t298 true _ A14.out).mono ?_); rintro e w33 ⟨rfl, hb⟩; refine ⟨_, rfl, ?_⟩; have n0_ := am_ (Kd.R_below (by (with_reducible repeat (first | apply r1_ | apply r2_ | apply r3_)); exact HO301.out) hb); have n1_ := am_ (blk_below (g := gb303) (o := .cells #[.int .i64 t297, .int .i64 t298] 26 (0, 0)) (by (with_reducible repeat (first | refine k1_ ?_ _ | refine k2_ ?_ | refine k3_ ?_ _)); exact BK303.out) hb); have n2_ := am_ (below_step (by repeat (first | (with_reducible first | exact HB.out | apply b1_ | apply b2_ | apply b3_ | refine below_set ?_ GE303.out) | exact HB.out)) hb); replace HO301 := n0_; replace BK303 := n1_; replace HB := n2_; clear n0_ n1_ n2_; (try clear hb); (try clear hb2); (try clear hk); (try clear hi)))
   go_meet
   case rel => exact ⟨_, (false), (by first | rfl | (simp; done) | (simp [*]; done)), H', ⟨by first | omega | exact Nat.le_refl _⟩, ⟨by (with_reducible repeat (first | apply r1_ | apply r2_ | apply r3_)); exact HO301.out⟩, ⟨by (with_reducible repeat (first | refine k1_ ?_ _ | refine k2_ ?_ | refine k3_ ?_ _)); exact BK303.out⟩, ⟨by repeat (first | (with_reducible first | exact HB.out | apply b1_ | apply b2_ | apply b3_ | refine below_set ?_ GE303.out) | exact HB.out)⟩⟩
  rw [if_pos c17] at H
  have c17b0 : decide (t302 ≤ 200) = true := decide_eq_true c17
  clear c17
  by_cases c18 : ((decide (t304 ≥ 0)) != (decide ((t299.length : Int) ≤ 400))) = true
  ·rw [if_pos c18] at H
   have c18b0 : ((decide (t304 ≥ 0)) != (decide ((t299.length : Int) ≤ 400))) = true := c18
   (try (have c18b1 : decide ((decide (t304 ≥ 0)) = (decide ((t299.length : Int) ≤ 400))) = false := by simpa using c18))
   (try (have c18b2 : ((decide (t304 ≥ 0)) == (decide ((t299.length : Int) ≤ 400))) = false := by simpa using c18))
   (try (have c18b3 : ¬ ((decide (t304 ≥ 0)) = (decide ((t299.length : Int) ≤ 400))) := by simpa using c18))
   clear c18
   have H' := am_ H
   clear H
   have hcz19_0 : w13.cell? ⟨gb303, 0, none⟩ = some (.int .i64 t297) := (blk_cell BK303.out 0).trans rfl
   have hcz19_1 : w13.cell? ⟨gb303, 1, none⟩ = some (.int .i64 t298) := (blk_cell BK303.out 1).trans rfl
   have hfz19_0 := blk_frozen BK303.out 0
   have hfz19_1 := blk_frozen BK303.out 1
   go_wp2_with (first | ((with_reducible refine gate_callee (f := 51) rfl ?_); refine goesL_ (some 28) rfl rfl Try.func51 (by kernel_rfl) rfl #[.agg #[.int .i64 t297, .int .i64 t298]] rfl (by (try simp only [mt_, mc_, mn_]); first | done | rfl | (simp only [ld_, lt_]; rfl)) ?_; (with_reducible refine (impl_IsRule.calls t297 t298 true _ A14.out).mono ?_); rintro e w20 ⟨rfl, hb⟩; refine ⟨_, rfl, ?_⟩; have n0_ := am_ (Kd.R_below (by (with_reducible repeat (first | apply r1_ | apply r2_ | apply r3_)); exact HO301.out) hb); have n1_ := am_ (blk_below (g := gb303) (o := .cells #[.int .i64 t297, .int .i64 t298] 26 (0, 0)) (by (with_reducible repeat (first | refine k1_ ?_ _ | refine k2_ ?_ | refine k3_ ?_ _)); exact BK303.out) hb); have n2_ := am_ (below_step (by repeat (first | (with_reducible first | exact HB.out | apply b1_ | apply b2_ | apply b3_ | refine below_set ?_ GE303.out) | exact HB.out)) hb); replace HO301 := n0_; replace BK303 := n1_; replace HB := n2_; clear n0_ n1_ n2_; (try clear hb); (try clear hb2); (try clear hk); (try clear hi)))
   go_meet
   case rel => exact ⟨_, (true), (by first | rfl | (simp; done) | (simp [*]; done)), H', ⟨by first | omega | exact Nat.le_refl _⟩, ⟨by (with_reducible repeat (first | apply r1_ | apply r2_ | apply r3_)); exact HO301.out⟩, ⟨by (with_reducible repeat (first | refine k1_ ?_ _ | refine k2_ ?_ | refine k3_ ?_ _)); exact BK303.out⟩, ⟨by repeat (first | (with_reducible first | exact HB.out | apply b1_ | apply b2_ | apply b3_ | refine below_set ?_ GE303.out) | exact HB.out)⟩⟩
  rw [if_neg c18] at H
  have c18b0 : ((decide (t304 ≥ 0)) != (decide ((t299.length : Int) ≤ 400))) = false := by simpa using c18
  (try (have c18b1 : decide ((decide (t304 ≥ 0)) = (decide ((t299.length : Int) ≤ 400))) = true := by simpa using c18))
  (try (have c18b2 : ((decide (t304 ≥ 0)) == (decide ((t299.length : Int) ≤ 400))) = true := by simpa using c18))
  clear c18
  by_cases c21 : t304 ≥ 0
  ·rw [if_pos c21] at H
   have c21b0 : decide (0 ≤ t304) = true := decide_eq_true c21
   have c21b8 : decide ((t299.length : Int) ≤ 400) = true := (bne_no c18b0).trans c21b0
   have c21b9 : decide (t299.length ≤ 400) = true := decide_eq_true (by have := of_decide_eq_true c21b8; omega)
   clear c21
   have H' := am_ H
   clear H
   have hcz22_0 : w13.cell? ⟨gb303, 0, none⟩ = some (.int .i64 t297) := (blk_cell BK303.out 0).trans rfl
   have hcz22_1 : w13.cell? ⟨gb303, 1, none⟩ = some (.int .i64 t298) := (blk_cell BK303.out 1).trans rfl
   have hfz22_0 := blk_frozen BK303.out 0
   have hfz22_1 := blk_frozen BK303.out 1
   go_wp2_with (first | ((with_reducible refine gate_callee (f := 51) rfl ?_); refine goesL_ (some 28) rfl rfl Try.func51 (by kernel_rfl) rfl #[.agg #[.int .i64 t297, .int .i64 t298]] rfl (by (try simp only [mt_, mc_, mn_]); first | done | rfl | (simp only [ld_, lt_]; rfl)) ?_; (with_reducible refine (impl_IsRule.calls t297 t298 true _ A14.out).mono ?_); rintro e w23 ⟨rfl, hb⟩; refine ⟨_, rfl, ?_⟩; have n0_ := am_ (Kd.R_below (by (with_reducible repeat (first | apply r1_ | apply r2_ | apply r3_)); exact HO301.out) hb); have n1_ := am_ (blk_below (g := gb303) (o := .cells #[.int .i64 t297, .int .i64 t298] 26 (0, 0)) (by (with_reducible repeat (first | refine k1_ ?_ _ | refine k2_ ?_ | refine k3_ ?_ _)); exact BK303.out) hb); have n2_ := am_ (below_step (by repeat (first | (with_reducible first | exact HB.out | apply b1_ | apply b2_ | apply b3_ | refine below_set ?_ GE303.out) | exact HB.out)) hb); replace HO301 := n0_; replace BK303 := n1_; replace HB := n2_; clear n0_ n1_ n2_; (try clear hb); (try clear hb2); (try clear hk); (try clear hi)))
   go_meet
   case rel => exact ⟨_, (decide (t304 < t302)), (by first | rfl | (simp; done) | (simp [*]; done)), H', ⟨by first | omega | exact Nat.le_refl _⟩, ⟨by (with_reducible repeat (first | apply r1_ | apply r2_ | apply r3_)); exact HO301.out⟩, ⟨by (with_reducible repeat (first | refine k1_ ?_ _ | refine k2_ ?_ | refine k3_ ?_ _)); exact BK303.out⟩, ⟨by repeat (first | (with_reducible first | exact HB.out | apply b1_ | apply b2_ | apply b3_ | refine below_set ?_ GE303.out) | exact HB.out)⟩⟩
  rw [if_neg c21] at H
  have c21b0 : decide (0 ≤ t304) = false := decide_eq_false c21
  have c21b8 : decide ((t299.length : Int) ≤ 400) = false := (bne_no c18b0).trans c21b0
  have c21b9 : decide (t299.length ≤ 400) = false := decide_eq_false (by have := of_decide_eq_false c21b8; omega)
  clear c21
  have H' := am_ H
  clear H
  have hcz24_0 : w13.cell? ⟨gb303, 0, none⟩ = some (.int .i64 t297) := (blk_cell BK303.out 0).trans rfl
  have hcz24_1 : w13.cell? ⟨gb303, 1, none⟩ = some (.int .i64 t298) := (blk_cell BK303.out 1).trans rfl
  have hfz24_0 := blk_frozen BK303.out 0
  have hfz24_1 := blk_frozen BK303.out 1
  go_wp2_with (first | ((with_reducible refine gate_callee (f := 51) rfl ?_); refine goesL_ (some 28) rfl rfl Try.func51 (by kernel_rfl) rfl #[.agg #[.int .i64 t297, .int .i64 t298]] rfl (by (try simp only [mt_, mc_, mn_]); first | done | rfl | (simp only [ld_, lt_]; rfl)) ?_; (with_reducible refine (impl_IsRule.calls t297 t298 true _ A14.out).mono ?_); rintro e w25 ⟨rfl, hb⟩; refine ⟨_, rfl, ?_⟩; have n0_ := am_ (Kd.R_below (by (with_reducible repeat (first | apply r1_ | apply r2_ | apply r3_)); exact HO301.out) hb); have n1_ := am_ (blk_below (g := gb303) (o := .cells #[.int .i64 t297, .int .i64 t298] 26 (0, 0)) (by (with_reducible repeat (first | refine k1_ ?_ _ | refine k2_ ?_ | refine k3_ ?_ _)); exact BK303.out) hb); have n2_ := am_ (below_step (by repeat (first | (with_reducible first | exact HB.out | apply b1_ | apply b2_ | apply b3_ | refine below_set ?_ GE303.out) | exact HB.out)) hb); replace HO301 := n0_; replace BK303 := n1_; replace HB := n2_; clear n0_ n1_ n2_; (try clear hb); (try clear hb2); (try clear hk); (try clear hi)))
  go_meet
  case rel => exact ⟨_, (false), (by first | rfl | (simp; done) | (simp [*]; done)), H', ⟨by first | omega | exact Nat.le_refl _⟩, ⟨by (with_reducible repeat (first | apply r1_ | apply r2_ | apply r3_)); exact HO301.out⟩, ⟨by (with_reducible repeat (first | refine k1_ ?_ _ | refine k2_ ?_ | refine k3_ ?_ _)); exact BK303.out⟩, ⟨by repeat (first | (with_reducible first | exact HB.out | apply b1_ | apply b2_ | apply b3_ | refine below_set ?_ GE303.out) | exact HB.out)⟩⟩
 case rest => as_aux_lemma =>
  clear HC6
  try clear c1
  try clear c2
  try clear p2
  try clear c3
  try clear c4
  try clear c5
  try clear c9
  try clear c15
  try clear c16
  try clear c16b0
  try clear c17
  try clear c17b0
  try clear c18
  try clear c18b0
  try clear c18b1
  try clear c18b2
  try clear c21
  try clear c21b0
  try clear c26
  try clear c26b0
  try clear c26b1
  try clear c26b2
  try clear c27
  try clear c29
  try clear c29b0
  try clear c34
  try clear c34b0
  try clear c34b1
  try clear c34b2
  try clear c37
  try clear c37b0
  try clear c42
  try clear c42b0
  try clear c42b1
  try clear c42b2
  try clear c45
  try clear c45b0
  try clear hcz11_0
  try clear hcz11_1
  try clear hcz19_0
  try clear hcz19_1
  try clear hcz22_0
  try clear hcz22_1
  try clear hcz24_0
  try clear hcz24_1
  try clear hcz27_0
  try clear hcz27_1
  try clear hcz30_0
  try clear hcz30_1
  try clear hcz32_0
  try clear hcz32_1
  try clear hcz35_0
  try clear hcz35_1
  try clear hcz38_0
  try clear hcz38_1
  try clear hcz40_0
  try clear hcz40_1
  try clear hcz43_0
  try clear hcz43_1
  try clear hcz46_0
  try clear hcz46_1
  try clear hcz48_0
  try clear hcz48_1
  try clear hcz9_0
  try clear hcz9_1
  try clear hfz11_0
  try clear hfz11_1
  try clear hfz19_0
  try clear hfz19_1
  try clear hfz22_0
  try clear hfz22_1
  try clear hfz24_0
  try clear hfz24_1
  try clear hfz27_0
  try clear hfz27_1
  try clear hfz30_0
  try clear hfz30_1
  try clear hfz32_0
  try clear hfz32_1
  try clear hfz35_0
  try clear hfz35_1
  try clear hfz38_0
  try clear hfz38_1
  try clear hfz40_0
  try clear hfz40_1
  try clear hfz43_0
  try clear hfz43_1
  try clear hfz46_0
  try clear hfz46_1
  try clear hfz48_0
  try clear hfz48_1
  try clear hfz9_0
  try clear hfz9_1
  obtain ⟨kq, x51_5, rfl, HA, HJ5, HO_4, BK303, HB⟩ := hcut
  cases kq with
  | zero => exact absurd HA.out (by simp [laws_FnStorms.j0])
  | succ kj5 =>
   have H := HA.out
   clear HA
   simp only [laws_FnStorms.j0] at H
   by_cases c50 : x51_5 = true
   ·subst c50
    have H1 : (some false) = some r := by rw [if_pos rfl] at H; exact H
    clear H
    have H := H1
    clear H1
    obtain rfl := Option.some.inj H
    go_wp2
    go_ret
    exact ⟨by first | rfl | (simp [errW_none, errW_some] <;> rfl) | (simp [*, errW_none, errW_some] <;> rfl), by repeat (first | (with_reducible first | exact HB.out | apply b1_ | apply b2_ | apply b3_ | refine below_set ?_ GE303.out) | exact HB.out)⟩
   replace c50 := Bool.eq_false_iff.mpr c50
   subst c50
   have H1 : (if t304 > 0 then ((laws_longer.f t299 false).bind fun t306 => ((impl_WorstDays.f kj5 t297 t298 t306 (wrap64 (t302 - 1))).bind fun t309 => (if t309 > (wrap64 (t304 - 1)) then (some false) else ((impl_MayStorm.f kj5 t297 t298 t299).bind fun t310 => (if t310 = true then ((laws_longer.f t299 true).bind fun t311 => ((impl_WorstDays.f kj5 t297 t298 t311 t302).bind fun t314 => (if t314 = (wrap64 (t304 - 1)) then ((impl_AddDay.f t299 false).bind fun t315 => ((impl_WorstDays.f kj5 t297 t298 t315 (wrap64 (t302 - 1))).bind fun t318 => (if t318 = t309 then (laws_FnStorms.j1 kj5 l0) else (some false)))) else (some false)))) else ((impl_AddDay.f t299 false).bind fun t319 => ((impl_WorstDays.f kj5 t297 t298 t319 (wrap64 (t302 - 1))).bind fun t322 => (if t322 = t309 then (laws_FnStorms.j1 kj5 l0) else (some false))))))))) else (laws_FnStorms.j1 kj5 l0)) = some r := by rw [if_neg (show ¬ (false = true) by decide)] at H; exact H
   clear H
   have H := H1
   clear H1
   have HC51 := am_ H
   clear H
   go_upto_if 53 with (fail)
   go_cut [] (fun wc => ∃ (kq : Nat), Aside0 (laws_FnStorms.j1 kq l0 = some r) ∧ Aside0 (kq ≤ kj5) ∧ Aside0 (wc.heap[gb303]? = some (.cells #[.int .i64 t297, .int .i64 t298] 26 (0, 0))) ∧ Aside0 (Below w.heap.size w wc))
   case first => as_aux_lemma =>
    have H := HC51.out
    clear HC51
    by_cases c52 : t304 > 0
    rotate_left
    ·rw [if_neg c52] at H
     have c52b0 : decide (0 < t304) = false := decide_eq_false c52
     clear c52
     (first | rw [c52b0] | (simp only [i64_w, i32_w]; rw [c52b0]) | skip)
     have H' := am_ H
     clear H
     go_wp2
     go_meet
     case rel => exact ⟨_, H', ⟨by have := HJ5.out; first | omega | exact Nat.le_refl _⟩, ⟨by (with_reducible repeat (first | refine k1_ ?_ _ | refine k2_ ?_ | refine k3_ ?_ _)); exact BK303.out⟩, ⟨by repeat (first | (with_reducible first | exact HB.out | apply b1_ | apply b2_ | apply b3_ | refine below_set ?_ GE303.out) | exact HB.out)⟩⟩
    rw [if_pos c52] at H
    have c52b0 : decide (0 < t304) = true := decide_eq_true c52
    clear c52
    (first | rw [c52b0] | (simp only [i64_w, i32_w]; rw [c52b0]) | skip)
    replace H := Option.bind_eq_some_iff.mp H
    obtain ⟨t306, A530, H⟩ := H
    replace H : ((impl_WorstDays.f kj5 t297 t298 t306 (wrap64 (t302 - 1))).bind fun t309 => (if t309 > (wrap64 (t304 - 1)) then (some false) else ((impl_MayStorm.f kj5 t297 t298 t299).bind fun t310 => (if t310 = true then ((laws_longer.f t299 true).bind fun t311 => ((impl_WorstDays.f kj5 t297 t298 t311 t302).bind fun t314 => (if t314 = (wrap64 (t304 - 1)) then ((impl_AddDay.f t299 false).bind fun t315 => ((impl_WorstDays.f kj5 t297 t298 t315 (wrap64 (t302 - 1))).bind fun t318 => (if t318 = t309 then (laws_FnStorms.j1 kj5 l0) else (some false)))) else (some false)))) else ((impl_AddDay.f t299 false).bind fun t319 => ((impl_WorstDays.f kj5 t297 t298 t319 (wrap64 (t302 - 1))).bind fun t322 => (if t322 = t309 then (laws_FnStorms.j1 kj5 l0) else (some false)))))))) = some r := H
    have A53 := am_ A530
    clear A530
    replace H := Option.bind_eq_some_iff.mp H
    obtain ⟨t309, A540, H⟩ := H
    replace H : (if t309 > (wrap64 (t304 - 1)) then (some false) else ((impl_MayStorm.f kj5 t297 t298 t299).bind fun t310 => (if t310 = true then ((laws_longer.f t299 true).bind fun t311 => ((impl_WorstDays.f kj5 t297 t298 t311 t302).bind fun t314 => (if t314 = (wrap64 (t304 - 1)) then ((impl_AddDay.f t299 false).bind fun t315 => ((impl_WorstDays.f kj5 t297 t298 t315 (wrap64 (t302 - 1))).bind fun t318 => (if t318 = t309 then (laws_FnStorms.j1 kj5 l0) else (some false)))) else (some false)))) else ((impl_AddDay.f t299 false).bind fun t319 => ((impl_WorstDays.f kj5 t297 t298 t319 (wrap64 (t302 - 1))).bind fun t322 => (if t322 = t309 then (laws_FnStorms.j1 kj5 l0) else (some false))))))) = some r := H
    have A54 := am_ A540
    clear A540
    by_cases c55 : t309 > (wrap64 (t304 - 1))
    ·rw [if_pos c55] at H
     have c55b0 : decide ((wrap64 (t304 - 1)) < t309) = true := decide_eq_true c55
     clear c55
     obtain rfl := Option.some.inj H
     try go_wp2
     have n0_ := am_ (r3_ HO_4.out)
     have n1_ := am_ (k2_ BK303.out)
     have n2_ := am_ (b3_ HB.out)
     replace HO_4 := n0_
     replace BK303 := n1_
     replace HB := n2_
     clear n0_ n1_ n2_
     refine start_ (n := 7) (S := fun w' => w'.cell? ⟨gb303, 0, none⟩ = some (.int .i64 t297) ∧ w'.cell? ⟨gb303, 1, none⟩ = some (.int .i64 t298)) (ds := []) (bz 7 0) (by kernel_rfl) rfl rfl ⟨(blk_cell BK303.out 0).trans rfl, (blk_cell BK303.out 1).trans rfl⟩ (fun hHeld => ?_)
     generalize wc.drew = w56 at HO_4 BK303 HB hHeld ⊢
     refine pu_ 1 (some 55) ?_ (bz 7 2) rfl rfl (by kernel_rfl) (fun _ _ _ h => h) (Or.inl ⟨by rfl, ?_⟩) ?_ ?_ ?_; rotate_left; (intro w'; go_simp; with_reducible rfl); rotate_left; (simp only [Act.put, ls1, ls2, ls3, i64_w, i32_w]; rfl)
     refine pu_ 3 (some 57) ?_ (bz 7 10) rfl rfl (by kernel_rfl) (fun _ _ _ h => h) (Or.inl ⟨by rfl, ?_⟩) ?_ ?_ ?_; rotate_left; (intro w'; go_simp; with_reducible rfl); rotate_left; (simp only [Act.put, ls1, ls2, ls3, i64_w, i32_w]; rfl)
     refine pu_ 4 (some 58) ?_ (bz 7 26) rfl rfl (by kernel_rfl) (fun _ _ _ h => h) (Or.inl ⟨by rfl, ?_⟩) ?_ ?_ ?_; rotate_left; (intro w'; go_simp; with_reducible rfl); rotate_left; (simp only [Act.put, ls1, ls2, ls3, i64_w, i32_w]; rfl)
     refine take_ (i := 0) (N := some 54) (v := ?_) (a' := ?_) (bz 7 27) rfl rfl (by kernel_rfl) (fun _ _ _ h => h) (Or.inl ⟨by rfl, ?_⟩) hHeld ?_ ?_; rotate_left; (rintro w' ⟨s0, s1⟩; go_simp; with_reducible rfl); rotate_left; (simp only [Act.put, ls1, ls2, ls3, i64_w, i32_w]; rfl)
     refine one_ (i := 2) (N := some 56) (bz 7 31) rfl rfl (by kernel_rfl) (by decide) (fun K hK => ?_)
     refine goes_ Try.func52 (by kernel_rfl) rfl #[.slice Ao12 t299.length co12, .bool false] (by rfl) rfl rfl (by (try simp only [mt_, mc_, mn_]); first | done | rfl | (simp only [ld_, lt_]; rfl)) ?_
     with_reducible refine (laws_longer.calls _ _ t299 false t306 _ ?side1 ?side2 A53.out).mono ?_
     (case side1 => repeat (first | exact (Kd.R_reads' HO_4.out).2.2 | (with_reducible first | refine c1_ ?_ _ | refine c2_ ?_ _ | refine c3_ ?_)))
     (case side2 => exact (Kd.R_reads' HO_4.out).2.1)
     rintro e w57 ⟨v307, rfl, ho0, hb⟩
     refine ⟨_, rfl, ?_⟩
     have n0_ := am_ (Kd.R_elder' (by (with_reducible repeat (first | apply r1_ | apply r2_ | apply r3_)); exact HO_4.out) (Kd.R_base ho0) hb)
     have n1_ := am_ (Kd.R_lower (Kd.R_new' ho0 (Kd.R_lt (by (with_reducible repeat (first | apply r1_ | apply r2_ | apply r3_)); exact HO_4.out))) (below_size (by repeat (first | (with_reducible first | exact HB.out | apply b1_ | apply b2_ | apply b3_ | refine below_set ?_ GE303.out) | exact HB.out))))
     have n2_ := am_ (blk_below (g := gb303) (o := .cells #[.int .i64 t297, .int .i64 t298] 26 (0, 0)) (by (with_reducible repeat (first | refine k1_ ?_ _ | refine k2_ ?_ | refine k3_ ?_ _)); exact BK303.out) hb)
     have n3_ := am_ (below_step (by repeat (first | (with_reducible first | exact HB.out | apply b1_ | apply b2_ | apply b3_ | refine below_set ?_ GE303.out) | exact HB.out)) hb)
     replace HO_4 := n0_
     have HO308 := n1_
     replace BK303 := n2_
     replace HB := n3_
     clear n0_ n1_ n2_ n3_
     (try clear hb)
     (try clear hb2)
     (try clear hk)
     (try clear hi)
     (try clear ho0)
     obtain ⟨Ao58, co58, eo58⟩ := Kd.R_slice HO308.out
     (first | subst eo58 | (injection eo58 with f1_ f2_ f3_; have f4_ := f1_.symm; have f5_ := f3_.symm; clear f1_ f2_ f3_; subst f4_; subst f5_))
     refine hK.out _ _ ⟨(blk_cell BK303.out 0).trans rfl, (blk_cell BK303.out 1).trans rfl⟩ (fun hHeld => ?_)
     clear hK K
     refine norm_ (a' := ?_) ?_ ?_
     rotate_left
     ·show Act.put _ (some 56) _ = _
      simp only [Act.put, ls1, ls2, ls3, i64_w, i32_w]
      rfl
     refine one_ (i := 5) (N := some 59) (bz 7 63) rfl rfl (by kernel_rfl) (by decide) (fun K hK => ?_)
     refine goes_ Try.func18 (by kernel_rfl) rfl #[.agg #[.int .i64 t297, .int .i64 t298], .slice Ao58 t306.length co58, .int .i64 (wrap64 (t302 - 1))] (by rfl) rfl rfl (by (try simp only [mt_, mc_, mn_]); first | done | rfl | (simp only [ld_, lt_]; rfl)) ?_
     with_reducible refine (impl_WorstDays.calls kj5 t297 t298 (fun k_ => some k_ = (.slice Ao58 t306.length co58 : Value).ownBlock) _ _ t306 (wrap64 (t302 - 1)) t309 _ ?side1 A54.out).mono ?_
     (case side1 => exact Kd.R_V (Kd.R_tight rfl (Kd.R_types (HO308.out) BK303.out (by decide))))
     rintro e w59 ⟨rfl, hb⟩
     refine ⟨_, rfl, ?_⟩
     have n0_ := am_ (Kd.R_below (by (with_reducible repeat (first | apply r1_ | apply r2_ | apply r3_)); exact HO_4.out) hb)
     have n1_ := am_ (Kd.R_below (by (with_reducible repeat (first | apply r1_ | apply r2_ | apply r3_)); exact HO308.out) hb)
     have n2_ := am_ (blk_below (g := gb303) (o := .cells #[.int .i64 t297, .int .i64 t298] 26 (0, 0)) (by (with_reducible repeat (first | refine k1_ ?_ _ | refine k2_ ?_ | refine k3_ ?_ _)); exact BK303.out) hb)
     have n3_ := am_ (below_step (by repeat (first | (with_reducible first | exact HB.out | apply b1_ | apply b2_ | apply b3_ | refine below_set ?_ GE303.out) | exact HB.out)) hb)
     replace HO_4 := n0_
     replace HO308 := n1_
     replace BK303 := n2_
     replace HB := n3_
     clear n0_ n1_ n2_ n3_
     (try clear hb)
     (try clear hb2)
     (try clear hk)
     (try clear hi)
     refine hK.out _ _ ⟨(blk_cell BK303.out 0).trans rfl, (blk_cell BK303.out 1).trans rfl⟩ (fun hHeld => ?_)
     clear hK K
     refine norm_ (a' := ?_) ?_ ?_
     rotate_left
     ·show Act.put _ (some 59) _ = _
      simp only [Act.put, ls1, ls2, ls3, i64_w, i32_w]
      rfl
     refine pu_ 6 (some 7) ?_ (bz 7 127) rfl rfl (by kernel_rfl) (fun _ _ _ h => h) (Or.inl ⟨by rfl, ?_⟩) ?_ ?_ ?_; rotate_left; (intro w'; go_simp; with_reducible rfl); rotate_left; (simp only [Act.put, ls1, ls2, ls3, i64_w, i32_w]; rfl)
     refine done_ (by kernel_rfl) ?_
     try go_wp2
     have n0_ := am_ (r3_ HO_4.out)
     have n1_ := am_ (r3_ HO308.out)
     have n2_ := am_ (k2_ BK303.out)
     have n3_ := am_ (b3_ HB.out)
     replace HO_4 := n0_
     replace HO308 := n1_
     replace BK303 := n2_
     replace HB := n3_
     clear n0_ n1_ n2_ n3_
     refine start_ (n := 29) (S := fun w' => True) (ds := []) (bz 29 0) (by kernel_rfl) rfl rfl trivial (fun hHeld => ?_); refine with_tabW laws_FnStorms.tab9 laws_FnStorms.bits9 (fun HT_ HW_ => ?_)
     generalize w59.drew = w60 at HO_4 HO308 BK303 HB hHeld ⊢
     refine pu_ 0 (some 60) ?_ (bz 29 1) rfl rfl (any_of HT_.out (by kernel_rfl)) (fun _ _ _ h => h) (Or.inl ⟨by rfl, ?_⟩) ?_ ?_ ?_; rotate_left; (intro w'; go_simp; with_reducible rfl); rotate_left; (simp only [Act.put, ls1, ls2, ls3, i64_w, i32_w]; rfl)
     refine pu_ 1 (some 61) ?_ (bz 29 3) rfl rfl (any_of HT_.out (by kernel_rfl)) (fun _ _ _ h => h) (Or.inl ⟨by rfl, ?_⟩) ?_ ?_ ?_; rotate_left; (intro w'; go_simp; with_reducible rfl); rotate_left; (simp only [Act.put, ls1, ls2, ls3, i64_w, i32_w]; rfl)
     refine pu_ 2 (some 62) ?_ (bz 29 7) rfl rfl (any_of HT_.out (by kernel_rfl)) (fun _ _ _ h => h) (Or.inl ⟨by rfl, ?_⟩) ?_ ?_ ?_; rotate_left; (intro w'; go_simp; with_reducible rfl); rotate_left; (simp only [Act.put, ls1, ls2, ls3, i64_w, i32_w]; rfl)
     refine pu_ 3 (some 63) ?_ (bz 29 15) rfl rfl (any_of HT_.out (by kernel_rfl)) (fun _ _ _ h => h) (Or.inl ⟨by rfl, ?_⟩) ?_ ?_ ?_; rotate_left; (intro w'; go_simp; with_reducible rfl); rotate_left; (simp only [Act.put, ls1, ls2, ls3, i64_w, i32_w]; rfl)
     refine pu_ 4 (some 64) ?_ (bz 29 31) rfl rfl (any_of HT_.out (by kernel_rfl)) (fun _ _ _ h => h) (Or.inl ⟨by rfl, ?_⟩) ?_ ?_ ?_; rotate_left; (intro w'; go_simp; with_reducible rfl); rotate_left; (simp only [Act.put, ls1, ls2, ls3, i64_w, i32_w]; rfl)
     refine pu_ 5 (some 65) undef (bz 29 63) rfl rfl (any_of HT_.out (by kernel_rfl)) (fun _ _ _ h => h) (Or.inr ⟨by rfl, rfl⟩) ?_ ?_ ?_
     rotate_left
     ·simp only [Act.put, ls1, ls2, ls3, i64_w, i32_w]
      rfl
     refine pu_ 6 (some 66) undef (bz 29 127) rfl rfl (any_of HT_.out (by kernel_rfl)) (fun _ _ _ h => h) (Or.inr ⟨by rfl, rfl⟩) ?_ ?_ ?_
     rotate_left
     ·simp only [Act.put, ls1, ls2, ls3, i64_w, i32_w]
      rfl
     refine pu_ 7 (some 67) undef (bz 29 255) rfl rfl (any_of HT_.out (by kernel_rfl)) (fun _ _ _ h => h) (Or.inr ⟨by rfl, rfl⟩) ?_ ?_ ?_
     rotate_left
     ·simp only [Act.put, ls1, ls2, ls3, i64_w, i32_w]
      rfl
     refine pu_ 8 (some 68) undef (bz 29 511) rfl rfl (any_of HT_.out (by kernel_rfl)) (fun _ _ _ h => h) (Or.inr ⟨by rfl, rfl⟩) ?_ ?_ ?_
     rotate_left
     ·simp only [Act.put, ls1, ls2, ls3, i64_w, i32_w]
      rfl
     refine pu_ 9 (some 69) undef (bz 29 1023) rfl rfl (any_of HT_.out (by kernel_rfl)) (fun _ _ _ h => h) (Or.inr ⟨by rfl, rfl⟩) ?_ ?_ ?_
     rotate_left
     ·simp only [Act.put, ls1, ls2, ls3, i64_w, i32_w]
      rfl
     refine pu_ 10 (some 70) undef (bz 29 2047) rfl rfl (any_of HT_.out (by kernel_rfl)) (fun _ _ _ h => h) (Or.inr ⟨by rfl, rfl⟩) ?_ ?_ ?_
     rotate_left
     ·simp only [Act.put, ls1, ls2, ls3, i64_w, i32_w]
      rfl
     refine pu_ 11 (some 71) undef (bz 29 4095) rfl rfl (any_of HT_.out (by kernel_rfl)) (fun _ _ _ h => h) (Or.inr ⟨by rfl, rfl⟩) ?_ ?_ ?_
     rotate_left
     ·simp only [Act.put, ls1, ls2, ls3, i64_w, i32_w]
      rfl
     refine pu_ 12 (some 72) undef (bz 29 8191) rfl rfl (any_of HT_.out (by kernel_rfl)) (fun _ _ _ h => h) (Or.inr ⟨by rfl, rfl⟩) ?_ ?_ ?_
     rotate_left
     ·simp only [Act.put, ls1, ls2, ls3, i64_w, i32_w]
      rfl
     refine pu_ 13 (some 73) undef (bz 29 16383) rfl rfl (any_of HT_.out (by kernel_rfl)) (fun _ _ _ h => h) (Or.inr ⟨by rfl, rfl⟩) ?_ ?_ ?_
     rotate_left
     ·simp only [Act.put, ls1, ls2, ls3, i64_w, i32_w]
      rfl
     refine pu_ 14 (some 74) undef (bz 29 32767) rfl rfl (any_of HT_.out (by kernel_rfl)) (fun _ _ _ h => h) (Or.inr ⟨by rfl, rfl⟩) ?_ ?_ ?_
     rotate_left
     ·simp only [Act.put, ls1, ls2, ls3, i64_w, i32_w]
      rfl
     refine pu_ 15 (some 75) undef (bz 29 65535) rfl rfl (any_of HT_.out (by kernel_rfl)) (fun _ _ _ h => h) (Or.inr ⟨by rfl, rfl⟩) ?_ ?_ ?_
     rotate_left
     ·simp only [Act.put, ls1, ls2, ls3, i64_w, i32_w]
      rfl
     refine pu_ 16 (some 76) undef (bz 29 131071) rfl rfl (any_of HT_.out (by kernel_rfl)) (fun _ _ _ h => h) (Or.inr ⟨by rfl, rfl⟩) ?_ ?_ ?_
     rotate_left
     ·simp only [Act.put, ls1, ls2, ls3, i64_w, i32_w]
      rfl
     refine pu_ 17 (some 77) undef (bz 29 262143) rfl rfl (any_of HT_.out (by kernel_rfl)) (fun _ _ _ h => h) (Or.inr ⟨by rfl, rfl⟩) ?_ ?_ ?_
     rotate_left
     ·simp only [Act.put, ls1, ls2, ls3, i64_w, i32_w]
      rfl
     refine pu_ 18 (some 78) ?_ (bz 29 524287) rfl rfl (any_of HT_.out (by kernel_rfl)) (fun _ _ _ h => h) (Or.inl ⟨by rfl, ?_⟩) ?_ ?_ ?_; rotate_left; (intro w'; go_simp; with_reducible rfl); rotate_left; (simp only [Act.put, ls1, ls2, ls3, i64_w, i32_w]; rfl)
     refine pu_ 19 (some 79) ?_ (bz 29 1048575) rfl rfl (any_of HT_.out (by kernel_rfl)) (fun _ _ _ h => h) (Or.inl ⟨by rfl, ?_⟩) ?_ ?_ ?_; rotate_left; (intro w'; go_simp; with_reducible rfl); rotate_left; (simp only [Act.put, ls1, ls2, ls3, i64_w, i32_w]; rfl)
     refine pu_ 20 (some 80) undef (bz 29 2097151) rfl rfl (any_of HT_.out (by kernel_rfl)) (fun _ _ _ h => h) (Or.inr ⟨by rfl, rfl⟩) ?_ ?_ ?_
     rotate_left
     ·simp only [Act.put, ls1, ls2, ls3, i64_w, i32_w]
      rfl
     refine pu_ 21 (some 81) undef (bz 29 4194303) rfl rfl (any_of HT_.out (by kernel_rfl)) (fun _ _ _ h => h) (Or.inr ⟨by rfl, rfl⟩) ?_ ?_ ?_
     rotate_left
     ·simp only [Act.put, ls1, ls2, ls3, i64_w, i32_w]
      rfl
     refine pu_ 22 (some 82) undef (bz 29 8388607) rfl rfl (any_of HT_.out (by kernel_rfl)) (fun _ _ _ h => h) (Or.inr ⟨by rfl, rfl⟩) ?_ ?_ ?_
     rotate_left
     ·simp only [Act.put, ls1, ls2, ls3, i64_w, i32_w]
      rfl
     refine pu_ 23 (some 83) undef (bz 29 16777215) rfl rfl (any_of HT_.out (by kernel_rfl)) (fun _ _ _ h => h) (Or.inr ⟨by rfl, rfl⟩) ?_ ?_ ?_
     rotate_left
     ·simp only [Act.put, ls1, ls2, ls3, i64_w, i32_w]
      rfl
     refine pu_ 24 (some 84) undef (bz 29 33554431) rfl rfl (any_of HT_.out (by kernel_rfl)) (fun _ _ _ h => h) (Or.inr ⟨by rfl, rfl⟩) ?_ ?_ ?_
     rotate_left
     ·simp only [Act.put, ls1, ls2, ls3, i64_w, i32_w]
      rfl
     refine pu_ 25 (some 85) undef (bz 29 67108863) rfl rfl (any_of HT_.out (by kernel_rfl)) (fun _ _ _ h => h) (Or.inr ⟨by rfl, rfl⟩) ?_ ?_ ?_
     rotate_left
     ·simp only [Act.put, ls1, ls2, ls3, i64_w, i32_w]
      rfl
     refine pu_ 26 (some 86) undef (bz 29 134217727) rfl rfl (any_of HT_.out (by kernel_rfl)) (fun _ _ _ h => h) (Or.inr ⟨by rfl, rfl⟩) ?_ ?_ ?_
     rotate_left
     ·simp only [Act.put, ls1, ls2, ls3, i64_w, i32_w]
      rfl
     refine pu_ 27 (some 87) undef (bz 29 268435455) rfl rfl (any_of HT_.out (by kernel_rfl)) (fun _ _ _ h => h) (Or.inr ⟨by rfl, rfl⟩) ?_ ?_ ?_
     rotate_left
     ·simp only [Act.put, ls1, ls2, ls3, i64_w, i32_w]
      rfl
     refine pu_ 28 (some 88) ?_ (bz 29 536870911) rfl rfl (any_of HT_.out (by kernel_rfl)) (fun _ _ _ h => h) (Or.inl ⟨by rfl, ?_⟩) ?_ ?_ ?_; rotate_left; (intro w'; go_simp; with_reducible rfl); rotate_left; (simp only [Act.put, ls1, ls2, ls3, i64_w, i32_w]; rfl)
     refine done_ (done_of HT_.out (by kernel_rfl)) ?_
     try go_wp2
     go_ret
     exact ⟨by first | rfl | (simp [errW_none, errW_some] <;> rfl) | (simp [*, errW_none, errW_some] <;> rfl), by repeat (first | (with_reducible first | exact HB.out | apply b1_ | apply b2_ | apply b3_ | refine below_set ?_ GE303.out) | exact HB.out)⟩
    rw [if_neg c55] at H
    have c55b0 : decide ((wrap64 (t304 - 1)) < t309) = false := decide_eq_false c55
    clear c55
    replace H := Option.bind_eq_some_iff.mp H
    obtain ⟨t310, A610, H⟩ := H
    replace H : (if t310 = true then ((laws_longer.f t299 true).bind fun t311 => ((impl_WorstDays.f kj5 t297 t298 t311 t302).bind fun t314 => (if t314 = (wrap64 (t304 - 1)) then ((impl_AddDay.f t299 false).bind fun t315 => ((impl_WorstDays.f kj5 t297 t298 t315 (wrap64 (t302 - 1))).bind fun t318 => (if t318 = t309 then (laws_FnStorms.j1 kj5 l0) else (some false)))) else (some false)))) else ((impl_AddDay.f t299 false).bind fun t319 => ((impl_WorstDays.f kj5 t297 t298 t319 (wrap64 (t302 - 1))).bind fun t322 => (if t322 = t309 then (laws_FnStorms.j1 kj5 l0) else (some false))))) = some r := H
    have A61 := am_ A610
    clear A610
    by_cases c62 : t310 = true
    rotate_left
    ·replace c62 := Bool.eq_false_iff.mpr c62
     subst c62
     have H1 : ((impl_AddDay.f t299 false).bind fun t319 => ((impl_WorstDays.f kj5 t297 t298 t319 (wrap64 (t302 - 1))).bind fun t322 => (if t322 = t309 then (laws_FnStorms.j1 kj5 l0) else (some false)))) = some r := by rw [if_neg (show ¬ (false = true) by decide)] at H; exact H
     clear H
     have H := H1
     clear H1
     replace H := Option.bind_eq_some_iff.mp H
     obtain ⟨t319, A1020, H⟩ := H
     replace H : ((impl_WorstDays.f kj5 t297 t298 t319 (wrap64 (t302 - 1))).bind fun t322 => (if t322 = t309 then (laws_FnStorms.j1 kj5 l0) else (some false))) = some r := H
     have A102 := am_ A1020
     clear A1020
     replace H := Option.bind_eq_some_iff.mp H
     obtain ⟨t322, A1030, H⟩ := H
     replace H : (if t322 = t309 then (laws_FnStorms.j1 kj5 l0) else (some false)) = some r := H
     have A103 := am_ A1030
     clear A1030
     by_cases c104 : t322 = t309
     ·rw [if_pos c104] at H
      have c104b0 : (t322 == t309) = true := beq_iff_eq.mpr c104
      have c104b1 : (t322 != t309) = false := bne_eq_false_iff_eq.mpr c104
      clear c104
      have H' := am_ H
      clear H
      try go_wp2
      have n0_ := am_ (r3_ HO_4.out)
      have n1_ := am_ (k2_ BK303.out)
      have n2_ := am_ (b3_ HB.out)
      replace HO_4 := n0_
      replace BK303 := n1_
      replace HB := n2_
      clear n0_ n1_ n2_
      refine start_ (n := 7) (S := fun w' => w'.cell? ⟨gb303, 0, none⟩ = some (.int .i64 t297) ∧ w'.cell? ⟨gb303, 1, none⟩ = some (.int .i64 t298)) (ds := []) (bz 7 0) (by kernel_rfl) rfl rfl ⟨(blk_cell BK303.out 0).trans rfl, (blk_cell BK303.out 1).trans rfl⟩ (fun hHeld => ?_)
      generalize wc.drew = w105 at HO_4 BK303 HB hHeld ⊢
      refine pu_ 1 (some 55) ?_ (bz 7 2) rfl rfl (by kernel_rfl) (fun _ _ _ h => h) (Or.inl ⟨by rfl, ?_⟩) ?_ ?_ ?_; rotate_left; (intro w'; go_simp; with_reducible rfl); rotate_left; (simp only [Act.put, ls1, ls2, ls3, i64_w, i32_w]; rfl)
      refine pu_ 3 (some 57) ?_ (bz 7 10) rfl rfl (by kernel_rfl) (fun _ _ _ h => h) (Or.inl ⟨by rfl, ?_⟩) ?_ ?_ ?_; rotate_left; (intro w'; go_simp; with_reducible rfl); rotate_left; (simp only [Act.put, ls1, ls2, ls3, i64_w, i32_w]; rfl)
      refine pu_ 4 (some 58) ?_ (bz 7 26) rfl rfl (by kernel_rfl) (fun _ _ _ h => h) (Or.inl ⟨by rfl, ?_⟩) ?_ ?_ ?_; rotate_left; (intro w'; go_simp; with_reducible rfl); rotate_left; (simp only [Act.put, ls1, ls2, ls3, i64_w, i32_w]; rfl)
      refine take_ (i := 0) (N := some 54) (v := ?_) (a' := ?_) (bz 7 27) rfl rfl (by kernel_rfl) (fun _ _ _ h => h) (Or.inl ⟨by rfl, ?_⟩) hHeld ?_ ?_; rotate_left; (rintro w' ⟨s0, s1⟩; go_simp; with_reducible rfl); rotate_left; (simp only [Act.put, ls1, ls2, ls3, i64_w, i32_w]; rfl)
      refine one_ (i := 2) (N := some 56) (bz 7 31) rfl rfl (by kernel_rfl) (by decide) (fun K hK => ?_)
      refine goes_ Try.func52 (by kernel_rfl) rfl #[.slice Ao12 t299.length co12, .bool false] (by rfl) rfl rfl (by (try simp only [mt_, mc_, mn_]); first | done | rfl | (simp only [ld_, lt_]; rfl)) ?_
      with_reducible refine (laws_longer.calls _ _ t299 false t306 _ ?side1 ?side2 A53.out).mono ?_
      (case side1 => repeat (first | exact (Kd.R_reads' HO_4.out).2.2 | (with_reducible first | refine c1_ ?_ _ | refine c2_ ?_ _ | refine c3_ ?_)))
      (case side2 => exact (Kd.R_reads' HO_4.out).2.1)
      rintro e w106 ⟨v307, rfl, ho0, hb⟩
      refine ⟨_, rfl, ?_⟩
      have n0_ := am_ (Kd.R_elder' (by (with_reducible repeat (first | apply r1_ | apply r2_ | apply r3_)); exact HO_4.out) (Kd.R_base ho0) hb)
      have n1_ := am_ (Kd.R_lower (Kd.R_new' ho0 (Kd.R_lt (by (with_reducible repeat (first | apply r1_ | apply r2_ | apply r3_)); exact HO_4.out))) (below_size (by repeat (first | (with_reducible first | exact HB.out | apply b1_ | apply b2_ | apply b3_ | refine below_set ?_ GE303.out) | exact HB.out))))
      have n2_ := am_ (blk_below (g := gb303) (o := .cells #[.int .i64 t297, .int .i64 t298] 26 (0, 0)) (by (with_reducible repeat (first | refine k1_ ?_ _ | refine k2_ ?_ | refine k3_ ?_ _)); exact BK303.out) hb)
      have n3_ := am_ (below_step (by repeat (first | (with_reducible first | exact HB.out | apply b1_ | apply b2_ | apply b3_ | refine below_set ?_ GE303.out) | exact HB.out)) hb)
      replace HO_4 := n0_
      have HO308 := n1_
      replace BK303 := n2_
      replace HB := n3_
      clear n0_ n1_ n2_ n3_
      (try clear hb)
      (try clear hb2)
      (try clear hk)
      (try clear hi)
      (try clear ho0)
      obtain ⟨Ao107, co107, eo107⟩ := Kd.R_slice HO308.out
      (first | subst eo107 | (injection eo107 with f1_ f2_ f3_; have f4_ := f1_.symm; have f5_ := f3_.symm; clear f1_ f2_ f3_; subst f4_; subst f5_))
      refine hK.out _ _ ⟨(blk_cell BK303.out 0).trans rfl, (blk_cell BK303.out 1).trans rfl⟩ (fun hHeld => ?_)
      clear hK K
      refine norm_ (a' := ?_) ?_ ?_
      rotate_left
      ·show Act.put _ (some 56) _ = _
       simp only [Act.put, ls1, ls2, ls3, i64_w, i32_w]
       rfl
      refine one_ (i := 5) (N := some 59) (bz 7 63) rfl rfl (by kernel_rfl) (by decide) (fun K hK => ?_)
      refine goes_ Try.func18 (by kernel_rfl) rfl #[.agg #[.int .i64 t297, .int .i64 t298], .slice Ao107 t306.length co107, .int .i64 (wrap64 (t302 - 1))] (by rfl) rfl rfl (by (try simp only [mt_, mc_, mn_]); first | done | rfl | (simp only [ld_, lt_]; rfl)) ?_
      with_reducible refine (impl_WorstDays.calls kj5 t297 t298 (fun k_ => some k_ = (.slice Ao107 t306.length co107 : Value).ownBlock) _ _ t306 (wrap64 (t302 - 1)) t309 _ ?side1 A54.out).mono ?_
      (case side1 => exact Kd.R_V (Kd.R_tight rfl (Kd.R_types (HO308.out) BK303.out (by decide))))
      rintro e w108 ⟨rfl, hb⟩
      refine ⟨_, rfl, ?_⟩
      have n0_ := am_ (Kd.R_below (by (with_reducible repeat (first | apply r1_ | apply r2_ | apply r3_)); exact HO_4.out) hb)
      have n1_ := am_ (Kd.R_below (by (with_reducible repeat (first | apply r1_ | apply r2_ | apply r3_)); exact HO308.out) hb)
      have n2_ := am_ (blk_below (g := gb303) (o := .cells #[.int .i64 t297, .int .i64 t298] 26 (0, 0)) (by (with_reducible repeat (first | refine k1_ ?_ _ | refine k2_ ?_ | refine k3_ ?_ _)); exact BK303.out) hb)
      have n3_ := am_ (below_step (by repeat (first | (with_reducible first | exact HB.out | apply b1_ | apply b2_ | apply b3_ | refine below_set ?_ GE303.out) | exact HB.out)) hb)
      replace HO_4 := n0_
      replace HO308 := n1_
      replace BK303 := n2_
      replace HB := n3_
      clear n0_ n1_ n2_ n3_
      (try clear hb)
      (try clear hb2)
      (try clear hk)
      (try clear hi)
      refine hK.out _ _ ⟨(blk_cell BK303.out 0).trans rfl, (blk_cell BK303.out 1).trans rfl⟩ (fun hHeld => ?_)
      clear hK K
      refine norm_ (a' := ?_) ?_ ?_
      rotate_left
      ·show Act.put _ (some 59) _ = _
       simp only [Act.put, ls1, ls2, ls3, i64_w, i32_w]
       rfl
      refine pu_ 6 (some 7) ?_ (bz 7 127) rfl rfl (by kernel_rfl) (fun _ _ _ h => h) (Or.inl ⟨by rfl, ?_⟩) ?_ ?_ ?_; rotate_left; (intro w'; go_simp; with_reducible rfl); rotate_left; (simp only [Act.put, ls1, ls2, ls3, i64_w, i32_w]; rfl)
      refine done_ (by kernel_rfl) ?_
      try go_wp2
      have n0_ := am_ (r3_ HO_4.out)
      have n1_ := am_ (r3_ HO308.out)
      have n2_ := am_ (k2_ BK303.out)
      have n3_ := am_ (b3_ HB.out)
      replace HO_4 := n0_
      replace HO308 := n1_
      replace BK303 := n2_
      replace HB := n3_
      clear n0_ n1_ n2_ n3_
      refine start_ (n := 29) (S := fun w' => w'.cell? ⟨gb303, 0, none⟩ = some (.int .i64 t297) ∧ w'.cell? ⟨gb303, 1, none⟩ = some (.int .i64 t298)) (ds := []) (bz 29 0) (by kernel_rfl) rfl rfl ⟨(blk_cell BK303.out 0).trans rfl, (blk_cell BK303.out 1).trans rfl⟩ (fun hHeld => ?_); refine with_tabW laws_FnStorms.tab9 laws_FnStorms.bits9 (fun HT_ HW_ => ?_)
      generalize w108.drew = w109 at HO_4 HO308 BK303 HB hHeld ⊢
      refine pu_ 0 (some 60) ?_ (bz 29 1) rfl rfl (any_of HT_.out (by kernel_rfl)) (fun _ _ _ h => h) (Or.inl ⟨by rfl, ?_⟩) ?_ ?_ ?_; rotate_left; (intro w'; go_simp; with_reducible rfl); rotate_left; (simp only [Act.put, ls1, ls2, ls3, i64_w, i32_w]; rfl)
      refine pu_ 1 (some 61) ?_ (bz 29 3) rfl rfl (any_of HT_.out (by kernel_rfl)) (fun _ _ _ h => h) (Or.inl ⟨by rfl, ?_⟩) ?_ ?_ ?_; rotate_left; (intro w'; go_simp; with_reducible rfl); rotate_left; (simp only [Act.put, ls1, ls2, ls3, i64_w, i32_w]; rfl)
      refine pu_ 2 (some 62) ?_ (bz 29 7) rfl rfl (any_of HT_.out (by kernel_rfl)) (fun _ _ _ h => h) (Or.inl ⟨by rfl, ?_⟩) ?_ ?_ ?_; rotate_left; (intro w'; go_simp; with_reducible rfl); rotate_left; (simp only [Act.put, ls1, ls2, ls3, i64_w, i32_w]; rfl)
      refine pu_ 3 (some 63) ?_ (bz 29 15) rfl rfl (any_of HT_.out (by kernel_rfl)) (fun _ _ _ h => h) (Or.inl ⟨by rfl, ?_⟩) ?_ ?_ ?_; rotate_left; (intro w'; go_simp; with_reducible rfl); rotate_left; (simp only [Act.put, ls1, ls2, ls3, i64_w, i32_w]; rfl)
      refine pu_ 4 (some 64) ?_ (bz 29 31) rfl rfl (any_of HT_.out (by kernel_rfl)) (fun _ _ _ h => h) (Or.inl ⟨by rfl, ?_⟩) ?_ ?_ ?_; rotate_left; (intro w'; go_simp; with_reducible rfl); rotate_left; (simp only [Act.put, ls1, ls2, ls3, i64_w, i32_w]; rfl)
      refine pu_ 6 (some 66) ?_ (bz 29 95) rfl rfl (any_of HT_.out (by kernel_rfl)) (fun _ _ _ h => h) (Or.inl ⟨by rfl, ?_⟩) ?_ ?_ ?_; rotate_left; (intro w'; go_simp; with_reducible rfl); rotate_left; (simp only [Act.put, ls1, ls2, ls3, i64_w, i32_w]; rfl)
      refine take_ (i := 5) (N := some 65) (v := ?_) (a' := ?_) (bz 29 127) rfl rfl (take_ofW HT_.out HW_.out (by kernel_rfl)) (fun _ _ _ h => h) (Or.inl ⟨by rfl, ?_⟩) hHeld ?_ ?_; rotate_left; (rintro w' ⟨s0, s1⟩; go_simp; with_reducible rfl); rotate_left; (simp only [Act.put, ls1, ls2, ls3, i64_w, i32_w]; rfl)
      refine one_ (i := 7) (N := some 67) (bz 29 255) rfl rfl (one_of HT_.out (by kernel_rfl)) (by decide) (fun K hK => ?_)
      refine goes_ Try.func53 (by kernel_rfl) rfl #[.agg #[.int .i64 t297, .int .i64 t298], .slice Ao12 t299.length co12] (by rfl) rfl rfl (by (try simp only [mt_, mc_, mn_]); first | done | rfl | (simp only [ld_, lt_]; rfl)) ?_
      with_reducible refine (impl_MayStorm.calls kj5 t297 t298 _ _ t299 false _ ?side1 ?side2 A61.out).mono ?_
      (case side1 => repeat (first | exact (Kd.R_reads' HO_4.out).2.2 | (with_reducible first | refine c1_ ?_ _ | refine c2_ ?_ _ | refine c3_ ?_)))
      (case side2 => exact (Kd.R_reads' HO_4.out).2.1)
      rintro e w110 ⟨rfl, hb⟩
      refine ⟨_, rfl, ?_⟩
      have n0_ := am_ (Kd.R_below (by (with_reducible repeat (first | apply r1_ | apply r2_ | apply r3_)); exact HO_4.out) hb)
      have n1_ := am_ (Kd.R_below (by (with_reducible repeat (first | apply r1_ | apply r2_ | apply r3_)); exact HO308.out) hb)
      have n2_ := am_ (blk_below (g := gb303) (o := .cells #[.int .i64 t297, .int .i64 t298] 26 (0, 0)) (by (with_reducible repeat (first | refine k1_ ?_ _ | refine k2_ ?_ | refine k3_ ?_ _)); exact BK303.out) hb)
      have n3_ := am_ (below_step (by repeat (first | (with_reducible first | exact HB.out | apply b1_ | apply b2_ | apply b3_ | refine below_set ?_ GE303.out) | exact HB.out)) hb)
      replace HO_4 := n0_
      replace HO308 := n1_
      replace BK303 := n2_
      replace HB := n3_
      clear n0_ n1_ n2_ n3_
      (try clear hb)
      (try clear hb2)
      (try clear hk)
      (try clear hi)
      refine hK.out _ _ ⟨(blk_cell BK303.out 0).trans rfl, (blk_cell BK303.out 1).trans rfl⟩ (fun hHeld => ?_)
      clear hK K
      refine norm_ (a' := ?_) ?_ ?_
      rotate_left
      ·show Act.put _ (some 67) _ = _
       simp only [Act.put, ls1, ls2, ls3, i64_w, i32_w]
       rfl
      refine pu_ 8 (some 68) ?_ (bz 29 511) rfl rfl (any_of HT_.out (by kernel_rfl)) (fun _ _ _ h => h) (Or.inl ⟨by rfl, ?_⟩) ?_ ?_ ?_; rotate_left; (intro w'; go_simp; with_reducible rfl); rotate_left; (simp only [Act.put, ls1, ls2, ls3, i64_w, i32_w]; rfl)
      refine pu_ 9 (some 69) undef (bz 29 1023) rfl rfl (any_of HT_.out (by kernel_rfl)) (fun _ _ _ h => h) (Or.inr ⟨by rfl, rfl⟩) ?_ ?_ ?_
      rotate_left
      ·simp only [Act.put, ls1, ls2, ls3, i64_w, i32_w]
       rfl
      refine pu_ 10 (some 70) undef (bz 29 2047) rfl rfl (any_of HT_.out (by kernel_rfl)) (fun _ _ _ h => h) (Or.inr ⟨by rfl, rfl⟩) ?_ ?_ ?_
      rotate_left
      ·simp only [Act.put, ls1, ls2, ls3, i64_w, i32_w]
       rfl
      refine pu_ 11 (some 71) undef (bz 29 4095) rfl rfl (any_of HT_.out (by kernel_rfl)) (fun _ _ _ h => h) (Or.inr ⟨by rfl, rfl⟩) ?_ ?_ ?_
      rotate_left
      ·simp only [Act.put, ls1, ls2, ls3, i64_w, i32_w]
       rfl
      refine pu_ 12 (some 72) undef (bz 29 8191) rfl rfl (any_of HT_.out (by kernel_rfl)) (fun _ _ _ h => h) (Or.inr ⟨by rfl, rfl⟩) ?_ ?_ ?_
      rotate_left
      ·simp only [Act.put, ls1, ls2, ls3, i64_w, i32_w]
       rfl
      refine pu_ 13 (some 73) undef (bz 29 16383) rfl rfl (any_of HT_.out (by kernel_rfl)) (fun _ _ _ h => h) (Or.inr ⟨by rfl, rfl⟩) ?_ ?_ ?_
      rotate_left
      ·simp only [Act.put, ls1, ls2, ls3, i64_w, i32_w]
       rfl
      refine pu_ 14 (some 74) undef (bz 29 32767) rfl rfl (any_of HT_.out (by kernel_rfl)) (fun _ _ _ h => h) (Or.inr ⟨by rfl, rfl⟩) ?_ ?_ ?_
      rotate_left
      ·simp only [Act.put, ls1, ls2, ls3, i64_w, i32_w]
       rfl
      refine pu_ 15 (some 75) undef (bz 29 65535) rfl rfl (any_of HT_.out (by kernel_rfl)) (fun _ _ _ h => h) (Or.inr ⟨by rfl, rfl⟩) ?_ ?_ ?_
      rotate_left
      ·simp only [Act.put, ls1, ls2, ls3, i64_w, i32_w]
       rfl
      refine pu_ 16 (some 76) undef (bz 29 131071) rfl rfl (any_of HT_.out (by kernel_rfl)) (fun _ _ _ h => h) (Or.inr ⟨by rfl, rfl⟩) ?_ ?_ ?_
      rotate_left
      ·simp only [Act.put, ls1, ls2, ls3, i64_w, i32_w]
       rfl
      refine pu_ 17 (some 77) ?_ (bz 29 262143) rfl rfl (any_of HT_.out (by kernel_rfl)) (fun _ _ _ h => h) (Or.inl ⟨by rfl, ?_⟩) ?_ ?_ ?_; rotate_left; (intro w'; go_simp; with_reducible rfl); rotate_left; (simp only [Act.put, ls1, ls2, ls3, i64_w, i32_w]; rfl)
      refine pu_ 18 (some 78) ?_ (bz 29 524287) rfl rfl (any_of HT_.out (by kernel_rfl)) (fun _ _ _ h => h) (Or.inl ⟨by rfl, ?_⟩) ?_ ?_ ?_; rotate_left; (intro w'; go_simp; with_reducible rfl); rotate_left; (simp only [Act.put, ls1, ls2, ls3, i64_w, i32_w]; rfl)
      refine pu_ 19 (some 79) ?_ (bz 29 1048575) rfl rfl (any_of HT_.out (by kernel_rfl)) (fun _ _ _ h => h) (Or.inl ⟨by rfl, ?_⟩) ?_ ?_ ?_; rotate_left; (intro w'; go_simp; with_reducible rfl); rotate_left; (simp only [Act.put, ls1, ls2, ls3, i64_w, i32_w]; rfl)
      refine pu_ 21 (some 81) ?_ (bz 29 3145727) rfl rfl (any_of HT_.out (by kernel_rfl)) (fun _ _ _ h => h) (Or.inl ⟨by rfl, ?_⟩) ?_ ?_ ?_; rotate_left; (intro w'; go_simp; with_reducible rfl); rotate_left; (simp only [Act.put, ls1, ls2, ls3, i64_w, i32_w]; rfl)
      refine pu_ 23 (some 83) ?_ (bz 29 11534335) rfl rfl (any_of HT_.out (by kernel_rfl)) (fun _ _ _ h => h) (Or.inl ⟨by rfl, ?_⟩) ?_ ?_ ?_; rotate_left; (intro w'; go_simp; with_reducible rfl); rotate_left; (simp only [Act.put, ls1, ls2, ls3, i64_w, i32_w]; rfl)
      refine pu_ 24 (some 84) ?_ (bz 29 28311551) rfl rfl (any_of HT_.out (by kernel_rfl)) (fun _ _ _ h => h) (Or.inl ⟨by rfl, ?_⟩) ?_ ?_ ?_; rotate_left; (intro w'; go_simp; with_reducible rfl); rotate_left; (simp only [Act.put, ls1, ls2, ls3, i64_w, i32_w]; rfl)
      refine pu_ 26 (some 86) ?_ (bz 29 95420415) rfl rfl (any_of HT_.out (by kernel_rfl)) (fun _ _ _ h => h) (Or.inl ⟨by rfl, ?_⟩) ?_ ?_ ?_; rotate_left; (intro w'; go_simp; with_reducible rfl); rotate_left; (simp only [Act.put, ls1, ls2, ls3, i64_w, i32_w]; rfl)
      refine take_ (i := 20) (N := some 80) (v := ?_) (a' := ?_) (bz 29 96468991) rfl rfl (take_ofW HT_.out HW_.out (by kernel_rfl)) (fun _ _ _ h => h) (Or.inl ⟨by rfl, ?_⟩) hHeld ?_ ?_; rotate_left; (rintro w' ⟨s0, s1⟩; go_simp; with_reducible rfl); rotate_left; (simp only [Act.put, ls1, ls2, ls3, i64_w, i32_w]; rfl)
      refine one_ (i := 22) (N := some 82) (bz 29 100663295) rfl rfl (one_of HT_.out (by kernel_rfl)) (by decide) (fun K hK => ?_)
      refine goes_ Try.func54 (by kernel_rfl) rfl #[.slice Ao12 t299.length co12, .bool false] (by rfl) rfl rfl (by (try simp only [mt_, mc_, mn_]); first | done | rfl | (simp only [ld_, lt_]; rfl)) ?_
      with_reducible refine (impl_AddDay.calls _ _ t299 false t319 _ ?side1 ?side2 A102.out).mono ?_
      (case side1 => repeat (first | exact (Kd.R_reads' HO_4.out).2.2 | (with_reducible first | refine c1_ ?_ _ | refine c2_ ?_ _ | refine c3_ ?_)))
      (case side2 => exact (Kd.R_reads' HO_4.out).2.1)
      rintro e w111 ⟨v320, rfl, ho0, hb⟩
      refine ⟨_, rfl, ?_⟩
      have n0_ := am_ (Kd.R_elder' (by (with_reducible repeat (first | apply r1_ | apply r2_ | apply r3_)); exact HO_4.out) (Kd.R_base ho0) hb)
      have n1_ := am_ (Kd.R_elder' (by (with_reducible repeat (first | apply r1_ | apply r2_ | apply r3_)); exact HO308.out) (Kd.R_base ho0) hb)
      have n2_ := am_ (Kd.R_lower (Kd.R_new' (Kd.R_new' ho0 (Kd.R_lt (by (with_reducible repeat (first | apply r1_ | apply r2_ | apply r3_)); exact HO_4.out))) (Kd.R_lt (by (with_reducible repeat (first | apply r1_ | apply r2_ | apply r3_)); exact HO308.out))) (below_size (by repeat (first | (with_reducible first | exact HB.out | apply b1_ | apply b2_ | apply b3_ | refine below_set ?_ GE303.out) | exact HB.out))))
      have n3_ := am_ (blk_below (g := gb303) (o := .cells #[.int .i64 t297, .int .i64 t298] 26 (0, 0)) (by (with_reducible repeat (first | refine k1_ ?_ _ | refine k2_ ?_ | refine k3_ ?_ _)); exact BK303.out) hb)
      have n4_ := am_ (below_step (by repeat (first | (with_reducible first | exact HB.out | apply b1_ | apply b2_ | apply b3_ | refine below_set ?_ GE303.out) | exact HB.out)) hb)
      replace HO_4 := n0_
      replace HO308 := n1_
      have HO321 := n2_
      replace BK303 := n3_
      replace HB := n4_
      clear n0_ n1_ n2_ n3_ n4_
      (try clear hb)
      (try clear hb2)
      (try clear hk)
      (try clear hi)
      (try clear ho0)
      obtain ⟨Ao112, co112, eo112⟩ := Kd.R_slice HO321.out
      (first | subst eo112 | (injection eo112 with f1_ f2_ f3_; have f4_ := f1_.symm; have f5_ := f3_.symm; clear f1_ f2_ f3_; subst f4_; subst f5_))
      refine hK.out _ _ ⟨(blk_cell BK303.out 0).trans rfl, (blk_cell BK303.out 1).trans rfl⟩ (fun hHeld => ?_)
      clear hK K
      refine norm_ (a' := ?_) ?_ ?_
      rotate_left
      ·show Act.put _ (some 82) _ = _
       simp only [Act.put, ls1, ls2, ls3, i64_w, i32_w]
       rfl
      refine one_ (i := 25) (N := some 85) (bz 29 134217727) rfl rfl (one_of HT_.out (by kernel_rfl)) (by decide) (fun K hK => ?_)
      refine goes_ Try.func18 (by kernel_rfl) rfl #[.agg #[.int .i64 t297, .int .i64 t298], .slice Ao112 t319.length co112, .int .i64 (wrap64 (t302 - 1))] (by rfl) rfl rfl (by (try simp only [mt_, mc_, mn_]); first | done | rfl | (simp only [ld_, lt_]; rfl)) ?_
      with_reducible refine (impl_WorstDays.calls kj5 t297 t298 (fun k_ => some k_ = (.slice Ao112 t319.length co112 : Value).ownBlock) _ _ t319 (wrap64 (t302 - 1)) t322 _ ?side1 A103.out).mono ?_
      (case side1 => exact Kd.R_V (Kd.R_tight rfl (Kd.R_types (HO321.out) BK303.out (by decide))))
      rintro e w113 ⟨rfl, hb⟩
      refine ⟨_, rfl, ?_⟩
      have n0_ := am_ (Kd.R_below (by (with_reducible repeat (first | apply r1_ | apply r2_ | apply r3_)); exact HO_4.out) hb)
      have n1_ := am_ (Kd.R_below (by (with_reducible repeat (first | apply r1_ | apply r2_ | apply r3_)); exact HO308.out) hb)
      have n2_ := am_ (Kd.R_below (by (with_reducible repeat (first | apply r1_ | apply r2_ | apply r3_)); exact HO321.out) hb)
      have n3_ := am_ (blk_below (g := gb303) (o := .cells #[.int .i64 t297, .int .i64 t298] 26 (0, 0)) (by (with_reducible repeat (first | refine k1_ ?_ _ | refine k2_ ?_ | refine k3_ ?_ _)); exact BK303.out) hb)
      have n4_ := am_ (below_step (by repeat (first | (with_reducible first | exact HB.out | apply b1_ | apply b2_ | apply b3_ | refine below_set ?_ GE303.out) | exact HB.out)) hb)
      replace HO_4 := n0_
      replace HO308 := n1_
      replace HO321 := n2_
      replace BK303 := n3_
      replace HB := n4_
      clear n0_ n1_ n2_ n3_ n4_
      (try clear hb)
      (try clear hb2)
      (try clear hk)
      (try clear hi)
      refine hK.out _ _ ⟨(blk_cell BK303.out 0).trans rfl, (blk_cell BK303.out 1).trans rfl⟩ (fun hHeld => ?_)
      clear hK K
      refine norm_ (a' := ?_) ?_ ?_
      rotate_left
      ·show Act.put _ (some 85) _ = _
       simp only [Act.put, ls1, ls2, ls3, i64_w, i32_w]
       rfl
      refine pu_ 27 (some 87) ?_ (bz 29 268435455) rfl rfl (any_of HT_.out (by kernel_rfl)) (fun _ _ _ h => h) (Or.inl ⟨by rfl, ?_⟩) ?_ ?_ ?_; rotate_left; (intro w'; go_simp; with_reducible rfl); rotate_left; (simp only [Act.put, ls1, ls2, ls3, i64_w, i32_w]; rfl)
      refine pu_ 28 (some 88) ?_ (bz 29 536870911) rfl rfl (any_of HT_.out (by kernel_rfl)) (fun _ _ _ h => h) (Or.inl ⟨by rfl, ?_⟩) ?_ ?_ ?_; rotate_left; (intro w'; go_simp; with_reducible rfl); rotate_left; (simp only [Act.put, ls1, ls2, ls3, i64_w, i32_w]; rfl)
      refine done_ (done_of HT_.out (by kernel_rfl)) ?_
      try go_wp2
      go_meet
      case rel => exact ⟨_, H', ⟨by have := HJ5.out; first | omega | exact Nat.le_refl _⟩, ⟨by (with_reducible repeat (first | refine k1_ ?_ _ | refine k2_ ?_ | refine k3_ ?_ _)); exact BK303.out⟩, ⟨by repeat (first | (with_reducible first | exact HB.out | apply b1_ | apply b2_ | apply b3_ | refine below_set ?_ GE303.out) | exact HB.out)⟩⟩
     rw [if_neg c104] at H
     have c104b0 : (t322 == t309) = false := beq_eq_false_iff_ne.mpr c104
     have c104b1 : (t322 != t309) = true := bne_iff_ne.mpr c104
     obtain rfl := Option.some.inj H
     try go_wp2
     have n0_ := am_ (r3_ HO_4.out)
     have n1_ := am_ (k2_ BK303.out)
     have n2_ := am_ (b3_ HB.out)
     replace HO_4 := n0_
     replace BK303 := n1_
     replace HB := n2_
     clear n0_ n1_ n2_
     refine start_ (n := 7) (S := fun w' => w'.cell? ⟨gb303, 0, none⟩ = some (.int .i64 t297) ∧ w'.cell? ⟨gb303, 1, none⟩ = some (.int .i64 t298)) (ds := []) (bz 7 0) (by kernel_rfl) rfl rfl ⟨(blk_cell BK303.out 0).trans rfl, (blk_cell BK303.out 1).trans rfl⟩ (fun hHeld => ?_)
     generalize wc.drew = w114 at HO_4 BK303 HB hHeld ⊢
     refine pu_ 1 (some 55) ?_ (bz 7 2) rfl rfl (by kernel_rfl) (fun _ _ _ h => h) (Or.inl ⟨by rfl, ?_⟩) ?_ ?_ ?_; rotate_left; (intro w'; go_simp; with_reducible rfl); rotate_left; (simp only [Act.put, ls1, ls2, ls3, i64_w, i32_w]; rfl)
     refine pu_ 3 (some 57) ?_ (bz 7 10) rfl rfl (by kernel_rfl) (fun _ _ _ h => h) (Or.inl ⟨by rfl, ?_⟩) ?_ ?_ ?_; rotate_left; (intro w'; go_simp; with_reducible rfl); rotate_left; (simp only [Act.put, ls1, ls2, ls3, i64_w, i32_w]; rfl)
     refine pu_ 4 (some 58) ?_ (bz 7 26) rfl rfl (by kernel_rfl) (fun _ _ _ h => h) (Or.inl ⟨by rfl, ?_⟩) ?_ ?_ ?_; rotate_left; (intro w'; go_simp; with_reducible rfl); rotate_left; (simp only [Act.put, ls1, ls2, ls3, i64_w, i32_w]; rfl)
     refine take_ (i := 0) (N := some 54) (v := ?_) (a' := ?_) (bz 7 27) rfl rfl (by kernel_rfl) (fun _ _ _ h => h) (Or.inl ⟨by rfl, ?_⟩) hHeld ?_ ?_; rotate_left; (rintro w' ⟨s0, s1⟩; go_simp; with_reducible rfl); rotate_left; (simp only [Act.put, ls1, ls2, ls3, i64_w, i32_w]; rfl)
     refine one_ (i := 2) (N := some 56) (bz 7 31) rfl rfl (by kernel_rfl) (by decide) (fun K hK => ?_)
     refine goes_ Try.func52 (by kernel_rfl) rfl #[.slice Ao12 t299.length co12, .bool false] (by rfl) rfl rfl (by (try simp only [mt_, mc_, mn_]); first | done | rfl | (simp only [ld_, lt_]; rfl)) ?_
     with_reducible refine (laws_longer.calls _ _ t299 false t306 _ ?side1 ?side2 A53.out).mono ?_
     (case side1 => repeat (first | exact (Kd.R_reads' HO_4.out).2.2 | (with_reducible first | refine c1_ ?_ _ | refine c2_ ?_ _ | refine c3_ ?_)))
     (case side2 => exact (Kd.R_reads' HO_4.out).2.1)
     rintro e w115 ⟨v307, rfl, ho0, hb⟩
     refine ⟨_, rfl, ?_⟩
     have n0_ := am_ (Kd.R_elder' (by (with_reducible repeat (first | apply r1_ | apply r2_ | apply r3_)); exact HO_4.out) (Kd.R_base ho0) hb)
     have n1_ := am_ (Kd.R_lower (Kd.R_new' ho0 (Kd.R_lt (by (with_reducible repeat (first | apply r1_ | apply r2_ | apply r3_)); exact HO_4.out))) (below_size (by repeat (first | (with_reducible first | exact HB.out | apply b1_ | apply b2_ | apply b3_ | refine below_set ?_ GE303.out) | exact HB.out))))
     have n2_ := am_ (blk_below (g := gb303) (o := .cells #[.int .i64 t297, .int .i64 t298] 26 (0, 0)) (by (with_reducible repeat (first | refine k1_ ?_ _ | refine k2_ ?_ | refine k3_ ?_ _)); exact BK303.out) hb)
     have n3_ := am_ (below_step (by repeat (first | (with_reducible first | exact HB.out | apply b1_ | apply b2_ | apply b3_ | refine below_set ?_ GE303.out) | exact HB.out)) hb)
     replace HO_4 := n0_
     have HO308 := n1_
     replace BK303 := n2_
     replace HB := n3_
     clear n0_ n1_ n2_ n3_
     (try clear hb)
     (try clear hb2)
     (try clear hk)
     (try clear hi)
     (try clear ho0)
     obtain ⟨Ao116, co116, eo116⟩ := Kd.R_slice HO308.out
     (first | subst eo116 | (injection eo116 with f1_ f2_ f3_; have f4_ := f1_.symm; have f5_ := f3_.symm; clear f1_ f2_ f3_; subst f4_; subst f5_))
     refine hK.out _ _ ⟨(blk_cell BK303.out 0).trans rfl, (blk_cell BK303.out 1).trans rfl⟩ (fun hHeld => ?_)
     clear hK K
     refine norm_ (a' := ?_) ?_ ?_
     rotate_left
     ·show Act.put _ (some 56) _ = _
      simp only [Act.put, ls1, ls2, ls3, i64_w, i32_w]
      rfl
     refine one_ (i := 5) (N := some 59) (bz 7 63) rfl rfl (by kernel_rfl) (by decide) (fun K hK => ?_)
     refine goes_ Try.func18 (by kernel_rfl) rfl #[.agg #[.int .i64 t297, .int .i64 t298], .slice Ao116 t306.length co116, .int .i64 (wrap64 (t302 - 1))] (by rfl) rfl rfl (by (try simp only [mt_, mc_, mn_]); first | done | rfl | (simp only [ld_, lt_]; rfl)) ?_
     with_reducible refine (impl_WorstDays.calls kj5 t297 t298 (fun k_ => some k_ = (.slice Ao116 t306.length co116 : Value).ownBlock) _ _ t306 (wrap64 (t302 - 1)) t309 _ ?side1 A54.out).mono ?_
     (case side1 => exact Kd.R_V (Kd.R_tight rfl (Kd.R_types (HO308.out) BK303.out (by decide))))
     rintro e w117 ⟨rfl, hb⟩
     refine ⟨_, rfl, ?_⟩
     have n0_ := am_ (Kd.R_below (by (with_reducible repeat (first | apply r1_ | apply r2_ | apply r3_)); exact HO_4.out) hb)
     have n1_ := am_ (Kd.R_below (by (with_reducible repeat (first | apply r1_ | apply r2_ | apply r3_)); exact HO308.out) hb)
     have n2_ := am_ (blk_below (g := gb303) (o := .cells #[.int .i64 t297, .int .i64 t298] 26 (0, 0)) (by (with_reducible repeat (first | refine k1_ ?_ _ | refine k2_ ?_ | refine k3_ ?_ _)); exact BK303.out) hb)
     have n3_ := am_ (below_step (by repeat (first | (with_reducible first | exact HB.out | apply b1_ | apply b2_ | apply b3_ | refine below_set ?_ GE303.out) | exact HB.out)) hb)
     replace HO_4 := n0_
     replace HO308 := n1_
     replace BK303 := n2_
     replace HB := n3_
     clear n0_ n1_ n2_ n3_
     (try clear hb)
     (try clear hb2)
     (try clear hk)
     (try clear hi)
     refine hK.out _ _ ⟨(blk_cell BK303.out 0).trans rfl, (blk_cell BK303.out 1).trans rfl⟩ (fun hHeld => ?_)
     clear hK K
     refine norm_ (a' := ?_) ?_ ?_
     rotate_left
     ·show Act.put _ (some 59) _ = _
      simp only [Act.put, ls1, ls2, ls3, i64_w, i32_w]
      rfl
     refine pu_ 6 (some 7) ?_ (bz 7 127) rfl rfl (by kernel_rfl) (fun _ _ _ h => h) (Or.inl ⟨by rfl, ?_⟩) ?_ ?_ ?_; rotate_left; (intro w'; go_simp; with_reducible rfl); rotate_left; (simp only [Act.put, ls1, ls2, ls3, i64_w, i32_w]; rfl)
     refine done_ (by kernel_rfl) ?_
     try go_wp2
     have n0_ := am_ (r3_ HO_4.out)
     have n1_ := am_ (r3_ HO308.out)
     have n2_ := am_ (k2_ BK303.out)
     have n3_ := am_ (b3_ HB.out)
     replace HO_4 := n0_
     replace HO308 := n1_
     replace BK303 := n2_
     replace HB := n3_
     clear n0_ n1_ n2_ n3_
     refine start_ (n := 29) (S := fun w' => w'.cell? ⟨gb303, 0, none⟩ = some (.int .i64 t297) ∧ w'.cell? ⟨gb303, 1, none⟩ = some (.int .i64 t298)) (ds := []) (bz 29 0) (by kernel_rfl) rfl rfl ⟨(blk_cell BK303.out 0).trans rfl, (blk_cell BK303.out 1).trans rfl⟩ (fun hHeld => ?_); refine with_tabW laws_FnStorms.tab9 laws_FnStorms.bits9 (fun HT_ HW_ => ?_)
     generalize w117.drew = w118 at HO_4 HO308 BK303 HB hHeld ⊢
     refine pu_ 0 (some 60) ?_ (bz 29 1) rfl rfl (any_of HT_.out (by kernel_rfl)) (fun _ _ _ h => h) (Or.inl ⟨by rfl, ?_⟩) ?_ ?_ ?_; rotate_left; (intro w'; go_simp; with_reducible rfl); rotate_left; (simp only [Act.put, ls1, ls2, ls3, i64_w, i32_w]; rfl)
     refine pu_ 1 (some 61) ?_ (bz 29 3) rfl rfl (any_of HT_.out (by kernel_rfl)) (fun _ _ _ h => h) (Or.inl ⟨by rfl, ?_⟩) ?_ ?_ ?_; rotate_left; (intro w'; go_simp; with_reducible rfl); rotate_left; (simp only [Act.put, ls1, ls2, ls3, i64_w, i32_w]; rfl)
     refine pu_ 2 (some 62) ?_ (bz 29 7) rfl rfl (any_of HT_.out (by kernel_rfl)) (fun _ _ _ h => h) (Or.inl ⟨by rfl, ?_⟩) ?_ ?_ ?_; rotate_left; (intro w'; go_simp; with_reducible rfl); rotate_left; (simp only [Act.put, ls1, ls2, ls3, i64_w, i32_w]; rfl)
     refine pu_ 3 (some 63) ?_ (bz 29 15) rfl rfl (any_of HT_.out (by kernel_rfl)) (fun _ _ _ h => h) (Or.inl ⟨by rfl, ?_⟩) ?_ ?_ ?_; rotate_left; (intro w'; go_simp; with_reducible rfl); rotate_left; (simp only [Act.put, ls1, ls2, ls3, i64_w, i32_w]; rfl)
     refine pu_ 4 (some 64) ?_ (bz 29 31) rfl rfl (any_of HT_.out (by kernel_rfl)) (fun _ _ _ h => h) (Or.inl ⟨by rfl, ?_⟩) ?_ ?_ ?_; rotate_left; (intro w'; go_simp; with_reducible rfl); rotate_left; (simp only [Act.put, ls1, ls2, ls3, i64_w, i32_w]; rfl)
     refine pu_ 6 (some 66) ?_ (bz 29 95) rfl rfl (any_of HT_.out (by kernel_rfl)) (fun _ _ _ h => h) (Or.inl ⟨by rfl, ?_⟩) ?_ ?_ ?_; rotate_left; (intro w'; go_simp; with_reducible rfl); rotate_left; (simp only [Act.put, ls1, ls2, ls3, i64_w, i32_w]; rfl)
     refine take_ (i := 5) (N := some 65) (v := ?_) (a' := ?_) (bz 29 127) rfl rfl (take_ofW HT_.out HW_.out (by kernel_rfl)) (fun _ _ _ h => h) (Or.inl ⟨by rfl, ?_⟩) hHeld ?_ ?_; rotate_left; (rintro w' ⟨s0, s1⟩; go_simp; with_reducible rfl); rotate_left; (simp only [Act.put, ls1, ls2, ls3, i64_w, i32_w]; rfl)
     refine one_ (i := 7) (N := some 67) (bz 29 255) rfl rfl (one_of HT_.out (by kernel_rfl)) (by decide) (fun K hK => ?_)
     refine goes_ Try.func53 (by kernel_rfl) rfl #[.agg #[.int .i64 t297, .int .i64 t298], .slice Ao12 t299.length co12] (by rfl) rfl rfl (by (try simp only [mt_, mc_, mn_]); first | done | rfl | (simp only [ld_, lt_]; rfl)) ?_
     with_reducible refine (impl_MayStorm.calls kj5 t297 t298 _ _ t299 false _ ?side1 ?side2 A61.out).mono ?_
     (case side1 => repeat (first | exact (Kd.R_reads' HO_4.out).2.2 | (with_reducible first | refine c1_ ?_ _ | refine c2_ ?_ _ | refine c3_ ?_)))
     (case side2 => exact (Kd.R_reads' HO_4.out).2.1)
     rintro e w119 ⟨rfl, hb⟩
     refine ⟨_, rfl, ?_⟩
     have n0_ := am_ (Kd.R_below (by (with_reducible repeat (first | apply r1_ | apply r2_ | apply r3_)); exact HO_4.out) hb)
     have n1_ := am_ (Kd.R_below (by (with_reducible repeat (first | apply r1_ | apply r2_ | apply r3_)); exact HO308.out) hb)
     have n2_ := am_ (blk_below (g := gb303) (o := .cells #[.int .i64 t297, .int .i64 t298] 26 (0, 0)) (by (with_reducible repeat (first | refine k1_ ?_ _ | refine k2_ ?_ | refine k3_ ?_ _)); exact BK303.out) hb)
     have n3_ := am_ (below_step (by repeat (first | (with_reducible first | exact HB.out | apply b1_ | apply b2_ | apply b3_ | refine below_set ?_ GE303.out) | exact HB.out)) hb)
     replace HO_4 := n0_
     replace HO308 := n1_
     replace BK303 := n2_
     replace HB := n3_
     clear n0_ n1_ n2_ n3_
     (try clear hb)
     (try clear hb2)
     (try clear hk)
     (try clear hi)
     refine hK.out _ _ ⟨(blk_cell BK303.out 0).trans rfl, (blk_cell BK303.out 1).trans rfl⟩ (fun hHeld => ?_)
     clear hK K
     refine norm_ (a' := ?_) ?_ ?_
     rotate_left
     ·show Act.put _ (some 67) _ = _
      simp only [Act.put, ls1, ls2, ls3, i64_w, i32_w]
      rfl
     refine pu_ 8 (some 68) ?_ (bz 29 511) rfl rfl (any_of HT_.out (by kernel_rfl)) (fun _ _ _ h => h) (Or.inl ⟨by rfl, ?_⟩) ?_ ?_ ?_; rotate_left; (intro w'; go_simp; with_reducible rfl); rotate_left; (simp only [Act.put, ls1, ls2, ls3, i64_w, i32_w]; rfl)
     refine pu_ 9 (some 69) undef (bz 29 1023) rfl rfl (any_of HT_.out (by kernel_rfl)) (fun _ _ _ h => h) (Or.inr ⟨by rfl, rfl⟩) ?_ ?_ ?_
     rotate_left
     ·simp only [Act.put, ls1, ls2, ls3, i64_w, i32_w]
      rfl
     refine pu_ 10 (some 70) undef (bz 29 2047) rfl rfl (any_of HT_.out (by kernel_rfl)) (fun _ _ _ h => h) (Or.inr ⟨by rfl, rfl⟩) ?_ ?_ ?_
     rotate_left
     ·simp only [Act.put, ls1, ls2, ls3, i64_w, i32_w]
      rfl
     refine pu_ 11 (some 71) undef (bz 29 4095) rfl rfl (any_of HT_.out (by kernel_rfl)) (fun _ _ _ h => h) (Or.inr ⟨by rfl, rfl⟩) ?_ ?_ ?_
     rotate_left
     ·simp only [Act.put, ls1, ls2, ls3, i64_w, i32_w]
      rfl
     refine pu_ 12 (some 72) undef (bz 29 8191) rfl rfl (any_of HT_.out (by kernel_rfl)) (fun _ _ _ h => h) (Or.inr ⟨by rfl, rfl⟩) ?_ ?_ ?_
     rotate_left
     ·simp only [Act.put, ls1, ls2, ls3, i64_w, i32_w]
      rfl
     refine pu_ 13 (some 73) undef (bz 29 16383) rfl rfl (any_of HT_.out (by kernel_rfl)) (fun _ _ _ h => h) (Or.inr ⟨by rfl, rfl⟩) ?_ ?_ ?_
     rotate_left
     ·simp only [Act.put, ls1, ls2, ls3, i64_w, i32_w]
      rfl
     refine pu_ 14 (some 74) undef (bz 29 32767) rfl rfl (any_of HT_.out (by kernel_rfl)) (fun _ _ _ h => h) (Or.inr ⟨by rfl, rfl⟩) ?_ ?_ ?_
     rotate_left
     ·simp only [Act.put, ls1, ls2, ls3, i64_w, i32_w]
      rfl
     refine pu_ 15 (some 75) undef (bz 29 65535) rfl rfl (any_of HT_.out (by kernel_rfl)) (fun _ _ _ h => h) (Or.inr ⟨by rfl, rfl⟩) ?_ ?_ ?_
     rotate_left
     ·simp only [Act.put, ls1, ls2, ls3, i64_w, i32_w]
      rfl
     refine pu_ 16 (some 76) undef (bz 29 131071) rfl rfl (any_of HT_.out (by kernel_rfl)) (fun _ _ _ h => h) (Or.inr ⟨by rfl, rfl⟩) ?_ ?_ ?_
     rotate_left
     ·simp only [Act.put, ls1, ls2, ls3, i64_w, i32_w]
      rfl
     refine pu_ 17 (some 77) ?_ (bz 29 262143) rfl rfl (any_of HT_.out (by kernel_rfl)) (fun _ _ _ h => h) (Or.inl ⟨by rfl, ?_⟩) ?_ ?_ ?_; rotate_left; (intro w'; go_simp; with_reducible rfl); rotate_left; (simp only [Act.put, ls1, ls2, ls3, i64_w, i32_w]; rfl)
     refine pu_ 18 (some 78) ?_ (bz 29 524287) rfl rfl (any_of HT_.out (by kernel_rfl)) (fun _ _ _ h => h) (Or.inl ⟨by rfl, ?_⟩) ?_ ?_ ?_; rotate_left; (intro w'; go_simp; with_reducible rfl); rotate_left; (simp only [Act.put, ls1, ls2, ls3, i64_w, i32_w]; rfl)
     refine pu_ 19 (some 79) ?_ (bz 29 1048575) rfl rfl (any_of HT_.out (by kernel_rfl)) (fun _ _ _ h => h) (Or.inl ⟨by rfl, ?_⟩) ?_ ?_ ?_; rotate_left; (intro w'; go_simp; with_reducible rfl); rotate_left; (simp only [Act.put, ls1, ls2, ls3, i64_w, i32_w]; rfl)
     refine pu_ 21 (some 81) ?_ (bz 29 3145727) rfl rfl (any_of HT_.out (by kernel_rfl)) (fun _ _ _ h => h) (Or.inl ⟨by rfl, ?_⟩) ?_ ?_ ?_; rotate_left; (intro w'; go_simp; with_reducible rfl); rotate_left; (simp only [Act.put, ls1, ls2, ls3, i64_w, i32_w]; rfl)
     refine pu_ 23 (some 83) ?_ (bz 29 11534335) rfl rfl (any_of HT_.out (by kernel_rfl)) (fun _ _ _ h => h) (Or.inl ⟨by rfl, ?_⟩) ?_ ?_ ?_; rotate_left; (intro w'; go_simp; with_reducible rfl); rotate_left; (simp only [Act.put, ls1, ls2, ls3, i64_w, i32_w]; rfl)
     refine pu_ 24 (some 84) ?_ (bz 29 28311551) rfl rfl (any_of HT_.out (by kernel_rfl)) (fun _ _ _ h => h) (Or.inl ⟨by rfl, ?_⟩) ?_ ?_ ?_; rotate_left; (intro w'; go_simp; with_reducible rfl); rotate_left; (simp only [Act.put, ls1, ls2, ls3, i64_w, i32_w]; rfl)
     refine pu_ 26 (some 86) ?_ (bz 29 95420415) rfl rfl (any_of HT_.out (by kernel_rfl)) (fun _ _ _ h => h) (Or.inl ⟨by rfl, ?_⟩) ?_ ?_ ?_; rotate_left; (intro w'; go_simp; with_reducible rfl); rotate_left; (simp only [Act.put, ls1, ls2, ls3, i64_w, i32_w]; rfl)
     refine take_ (i := 20) (N := some 80) (v := ?_) (a' := ?_) (bz 29 96468991) rfl rfl (take_ofW HT_.out HW_.out (by kernel_rfl)) (fun _ _ _ h => h) (Or.inl ⟨by rfl, ?_⟩) hHeld ?_ ?_; rotate_left; (rintro w' ⟨s0, s1⟩; go_simp; with_reducible rfl); rotate_left; (simp only [Act.put, ls1, ls2, ls3, i64_w, i32_w]; rfl)
     refine one_ (i := 22) (N := some 82) (bz 29 100663295) rfl rfl (one_of HT_.out (by kernel_rfl)) (by decide) (fun K hK => ?_)
     refine goes_ Try.func54 (by kernel_rfl) rfl #[.slice Ao12 t299.length co12, .bool false] (by rfl) rfl rfl (by (try simp only [mt_, mc_, mn_]); first | done | rfl | (simp only [ld_, lt_]; rfl)) ?_
     with_reducible refine (impl_AddDay.calls _ _ t299 false t319 _ ?side1 ?side2 A102.out).mono ?_
     (case side1 => repeat (first | exact (Kd.R_reads' HO_4.out).2.2 | (with_reducible first | refine c1_ ?_ _ | refine c2_ ?_ _ | refine c3_ ?_)))
     (case side2 => exact (Kd.R_reads' HO_4.out).2.1)
     rintro e w120 ⟨v320, rfl, ho0, hb⟩
     refine ⟨_, rfl, ?_⟩
     have n0_ := am_ (Kd.R_elder' (by (with_reducible repeat (first | apply r1_ | apply r2_ | apply r3_)); exact HO_4.out) (Kd.R_base ho0) hb)
     have n1_ := am_ (Kd.R_elder' (by (with_reducible repeat (first | apply r1_ | apply r2_ | apply r3_)); exact HO308.out) (Kd.R_base ho0) hb)
     have n2_ := am_ (Kd.R_lower (Kd.R_new' (Kd.R_new' ho0 (Kd.R_lt (by (with_reducible repeat (first | apply r1_ | apply r2_ | apply r3_)); exact HO_4.out))) (Kd.R_lt (by (with_reducible repeat (first | apply r1_ | apply r2_ | apply r3_)); exact HO308.out))) (below_size (by repeat (first | (with_reducible first | exact HB.out | apply b1_ | apply b2_ | apply b3_ | refine below_set ?_ GE303.out) | exact HB.out))))
     have n3_ := am_ (blk_below (g := gb303) (o := .cells #[.int .i64 t297, .int .i64 t298] 26 (0, 0)) (by (with_reducible repeat (first | refine k1_ ?_ _ | refine k2_ ?_ | refine k3_ ?_ _)); exact BK303.out) hb)
     have n4_ := am_ (below_step (by repeat (first | (with_reducible first | exact HB.out | apply b1_ | apply b2_ | apply b3_ | refine below_set ?_ GE303.out) | exact HB.out)) hb)
     replace HO_4 := n0_
     replace HO308 := n1_
     have HO321 := n2_
     replace BK303 := n3_
     replace HB := n4_
     clear n0_ n1_ n2_ n3_ n4_
     (try clear hb)
     (try clear hb2)
     (try clear hk)
     (try clear hi)
     (try clear ho0)
     obtain ⟨Ao121, co121, eo121⟩ := Kd.R_slice HO321.out
     (first | subst eo121 | (injection eo121 with f1_ f2_ f3_; have f4_ := f1_.symm; have f5_ := f3_.symm; clear f1_ f2_ f3_; subst f4_; subst f5_))
     refine hK.out _ _ ⟨(blk_cell BK303.out 0).trans rfl, (blk_cell BK303.out 1).trans rfl⟩ (fun hHeld => ?_)
     clear hK K
     refine norm_ (a' := ?_) ?_ ?_
     rotate_left
     ·show Act.put _ (some 82) _ = _
      simp only [Act.put, ls1, ls2, ls3, i64_w, i32_w]
      rfl
     refine one_ (i := 25) (N := some 85) (bz 29 134217727) rfl rfl (one_of HT_.out (by kernel_rfl)) (by decide) (fun K hK => ?_)
     refine goes_ Try.func18 (by kernel_rfl) rfl #[.agg #[.int .i64 t297, .int .i64 t298], .slice Ao121 t319.length co121, .int .i64 (wrap64 (t302 - 1))] (by rfl) rfl rfl (by (try simp only [mt_, mc_, mn_]); first | done | rfl | (simp only [ld_, lt_]; rfl)) ?_
     with_reducible refine (impl_WorstDays.calls kj5 t297 t298 (fun k_ => some k_ = (.slice Ao121 t319.length co121 : Value).ownBlock) _ _ t319 (wrap64 (t302 - 1)) t322 _ ?side1 A103.out).mono ?_
     (case side1 => exact Kd.R_V (Kd.R_tight rfl (Kd.R_types (HO321.out) BK303.out (by decide))))
     rintro e w122 ⟨rfl, hb⟩
     refine ⟨_, rfl, ?_⟩
     have n0_ := am_ (Kd.R_below (by (with_reducible repeat (first | apply r1_ | apply r2_ | apply r3_)); exact HO_4.out) hb)
     have n1_ := am_ (Kd.R_below (by (with_reducible repeat (first | apply r1_ | apply r2_ | apply r3_)); exact HO308.out) hb)
     have n2_ := am_ (Kd.R_below (by (with_reducible repeat (first | apply r1_ | apply r2_ | apply r3_)); exact HO321.out) hb)
     have n3_ := am_ (blk_below (g := gb303) (o := .cells #[.int .i64 t297, .int .i64 t298] 26 (0, 0)) (by (with_reducible repeat (first | refine k1_ ?_ _ | refine k2_ ?_ | refine k3_ ?_ _)); exact BK303.out) hb)
     have n4_ := am_ (below_step (by repeat (first | (with_reducible first | exact HB.out | apply b1_ | apply b2_ | apply b3_ | refine below_set ?_ GE303.out) | exact HB.out)) hb)
     replace HO_4 := n0_
     replace HO308 := n1_
     replace HO321 := n2_
     replace BK303 := n3_
     replace HB := n4_
     clear n0_ n1_ n2_ n3_ n4_
     (try clear hb)
     (try clear hb2)
     (try clear hk)
     (try clear hi)
     refine hK.out _ _ ⟨(blk_cell BK303.out 0).trans rfl, (blk_cell BK303.out 1).trans rfl⟩ (fun hHeld => ?_)
     clear hK K
     refine norm_ (a' := ?_) ?_ ?_
     rotate_left
     ·show Act.put _ (some 85) _ = _
      simp only [Act.put, ls1, ls2, ls3, i64_w, i32_w]
      rfl
     refine pu_ 27 (some 87) ?_ (bz 29 268435455) rfl rfl (any_of HT_.out (by kernel_rfl)) (fun _ _ _ h => h) (Or.inl ⟨by rfl, ?_⟩) ?_ ?_ ?_; rotate_left; (intro w'; go_simp; with_reducible rfl); rotate_left; (simp only [Act.put, ls1, ls2, ls3, i64_w, i32_w]; rfl)
     refine pu_ 28 (some 88) ?_ (bz 29 536870911) rfl rfl (any_of HT_.out (by kernel_rfl)) (fun _ _ _ h => h) (Or.inl ⟨by rfl, ?_⟩) ?_ ?_ ?_; rotate_left; (intro w'; go_simp; with_reducible rfl); rotate_left; (simp only [Act.put, ls1, ls2, ls3, i64_w, i32_w]; rfl)
     refine done_ (done_of HT_.out (by kernel_rfl)) ?_
     try go_wp2
     go_ret
     exact ⟨by first | rfl | (simp [errW_none, errW_some] <;> rfl) | (simp [*, errW_none, errW_some] <;> rfl), by repeat (first | (with_reducible first | exact HB.out | apply b1_ | apply b2_ | apply b3_ | refine below_set ?_ GE303.out) | exact HB.out)⟩
    subst c62
    have H1 : ((laws_longer.f t299 true).bind fun t311 => ((impl_WorstDays.f kj5 t297 t298 t311 t302).bind fun t314 => (if t314 = (wrap64 (t304 - 1)) then ((impl_AddDay.f t299 false).bind fun t315 => ((impl_WorstDays.f kj5 t297 t298 t315 (wrap64 (t302 - 1))).bind fun t318 => (if t318 = t309 then (laws_FnStorms.j1 kj5 l0) else (some false)))) else (some false)))) = some r := by rw [if_pos rfl] at H; exact H
    clear H
    have H := H1
    clear H1
    replace H := Option.bind_eq_some_iff.mp H
    obtain ⟨t311, A630, H⟩ := H
    replace H : ((impl_WorstDays.f kj5 t297 t298 t311 t302).bind fun t314 => (if t314 = (wrap64 (t304 - 1)) then ((impl_AddDay.f t299 false).bind fun t315 => ((impl_WorstDays.f kj5 t297 t298 t315 (wrap64 (t302 - 1))).bind fun t318 => (if t318 = t309 then (laws_FnStorms.j1 kj5 l0) else (some false)))) else (some false))) = some r := H
    have A63 := am_ A630
    clear A630
    replace H := Option.bind_eq_some_iff.mp H
    obtain ⟨t314, A640, H⟩ := H
    replace H : (if t314 = (wrap64 (t304 - 1)) then ((impl_AddDay.f t299 false).bind fun t315 => ((impl_WorstDays.f kj5 t297 t298 t315 (wrap64 (t302 - 1))).bind fun t318 => (if t318 = t309 then (laws_FnStorms.j1 kj5 l0) else (some false)))) else (some false)) = some r := H
    have A64 := am_ A640
    clear A640
    by_cases c65 : t314 = (wrap64 (t304 - 1))
    rotate_left
    ·rw [if_neg c65] at H
     have c65b0 : (t314 == (wrap64 (t304 - 1))) = false := beq_eq_false_iff_ne.mpr c65
     have c65b1 : (t314 != (wrap64 (t304 - 1))) = true := bne_iff_ne.mpr c65
     obtain rfl := Option.some.inj H
     try go_wp2
     have n0_ := am_ (r3_ HO_4.out)
     have n1_ := am_ (k2_ BK303.out)
     have n2_ := am_ (b3_ HB.out)
     replace HO_4 := n0_
     replace BK303 := n1_
     replace HB := n2_
     clear n0_ n1_ n2_
     refine start_ (n := 7) (S := fun w' => w'.cell? ⟨gb303, 0, none⟩ = some (.int .i64 t297) ∧ w'.cell? ⟨gb303, 1, none⟩ = some (.int .i64 t298)) (ds := []) (bz 7 0) (by kernel_rfl) rfl rfl ⟨(blk_cell BK303.out 0).trans rfl, (blk_cell BK303.out 1).trans rfl⟩ (fun hHeld => ?_)
     generalize wc.drew = w93 at HO_4 BK303 HB hHeld ⊢
     refine pu_ 1 (some 55) ?_ (bz 7 2) rfl rfl (by kernel_rfl) (fun _ _ _ h => h) (Or.inl ⟨by rfl, ?_⟩) ?_ ?_ ?_; rotate_left; (intro w'; go_simp; with_reducible rfl); rotate_left; (simp only [Act.put, ls1, ls2, ls3, i64_w, i32_w]; rfl)
     refine pu_ 3 (some 57) ?_ (bz 7 10) rfl rfl (by kernel_rfl) (fun _ _ _ h => h) (Or.inl ⟨by rfl, ?_⟩) ?_ ?_ ?_; rotate_left; (intro w'; go_simp; with_reducible rfl); rotate_left; (simp only [Act.put, ls1, ls2, ls3, i64_w, i32_w]; rfl)
     refine pu_ 4 (some 58) ?_ (bz 7 26) rfl rfl (by kernel_rfl) (fun _ _ _ h => h) (Or.inl ⟨by rfl, ?_⟩) ?_ ?_ ?_; rotate_left; (intro w'; go_simp; with_reducible rfl); rotate_left; (simp only [Act.put, ls1, ls2, ls3, i64_w, i32_w]; rfl)
     refine take_ (i := 0) (N := some 54) (v := ?_) (a' := ?_) (bz 7 27) rfl rfl (by kernel_rfl) (fun _ _ _ h => h) (Or.inl ⟨by rfl, ?_⟩) hHeld ?_ ?_; rotate_left; (rintro w' ⟨s0, s1⟩; go_simp; with_reducible rfl); rotate_left; (simp only [Act.put, ls1, ls2, ls3, i64_w, i32_w]; rfl)
     refine one_ (i := 2) (N := some 56) (bz 7 31) rfl rfl (by kernel_rfl) (by decide) (fun K hK => ?_)
     refine goes_ Try.func52 (by kernel_rfl) rfl #[.slice Ao12 t299.length co12, .bool false] (by rfl) rfl rfl (by (try simp only [mt_, mc_, mn_]); first | done | rfl | (simp only [ld_, lt_]; rfl)) ?_
     with_reducible refine (laws_longer.calls _ _ t299 false t306 _ ?side1 ?side2 A53.out).mono ?_
     (case side1 => repeat (first | exact (Kd.R_reads' HO_4.out).2.2 | (with_reducible first | refine c1_ ?_ _ | refine c2_ ?_ _ | refine c3_ ?_)))
     (case side2 => exact (Kd.R_reads' HO_4.out).2.1)
     rintro e w94 ⟨v307, rfl, ho0, hb⟩
     refine ⟨_, rfl, ?_⟩
     have n0_ := am_ (Kd.R_elder' (by (with_reducible repeat (first | apply r1_ | apply r2_ | apply r3_)); exact HO_4.out) (Kd.R_base ho0) hb)
     have n1_ := am_ (Kd.R_lower (Kd.R_new' ho0 (Kd.R_lt (by (with_reducible repeat (first | apply r1_ | apply r2_ | apply r3_)); exact HO_4.out))) (below_size (by repeat (first | (with_reducible first | exact HB.out | apply b1_ | apply b2_ | apply b3_ | refine below_set ?_ GE303.out) | exact HB.out))))
     have n2_ := am_ (blk_below (g := gb303) (o := .cells #[.int .i64 t297, .int .i64 t298] 26 (0, 0)) (by (with_reducible repeat (first | refine k1_ ?_ _ | refine k2_ ?_ | refine k3_ ?_ _)); exact BK303.out) hb)
     have n3_ := am_ (below_step (by repeat (first | (with_reducible first | exact HB.out | apply b1_ | apply b2_ | apply b3_ | refine below_set ?_ GE303.out) | exact HB.out)) hb)
     replace HO_4 := n0_
     have HO308 := n1_
     replace BK303 := n2_
     replace HB := n3_
     clear n0_ n1_ n2_ n3_
     (try clear hb)
     (try clear hb2)
     (try clear hk)
     (try clear hi)
     (try clear ho0)
     obtain ⟨Ao95, co95, eo95⟩ := Kd.R_slice HO308.out
     (first | subst eo95 | (injection eo95 with f1_ f2_ f3_; have f4_ := f1_.symm; have f5_ := f3_.symm; clear f1_ f2_ f3_; subst f4_; subst f5_))
     refine hK.out _ _ ⟨(blk_cell BK303.out 0).trans rfl, (blk_cell BK303.out 1).trans rfl⟩ (fun hHeld => ?_)
     clear hK K
     refine norm_ (a' := ?_) ?_ ?_
     rotate_left
     ·show Act.put _ (some 56) _ = _
      simp only [Act.put, ls1, ls2, ls3, i64_w, i32_w]
      rfl
     refine one_ (i := 5) (N := some 59) (bz 7 63) rfl rfl (by kernel_rfl) (by decide) (fun K hK => ?_)
     refine goes_ Try.func18 (by kernel_rfl) rfl #[.agg #[.int .i64 t297, .int .i64 t298], .slice Ao95 t306.length co95, .int .i64 (wrap64 (t302 - 1))] (by rfl) rfl rfl (by (try simp only [mt_, mc_, mn_]); first | done | rfl | (simp only [ld_, lt_]; rfl)) ?_
     with_reducible refine (impl_WorstDays.calls kj5 t297 t298 (fun k_ => some k_ = (.slice Ao95 t306.length co95 : Value).ownBlock) _ _ t306 (wrap64 (t302 - 1)) t309 _ ?side1 A54.out).mono ?_
     (case side1 => exact Kd.R_V (Kd.R_tight rfl (Kd.R_types (HO308.out) BK303.out (by decide))))
     rintro e w96 ⟨rfl, hb⟩
     refine ⟨_, rfl, ?_⟩
     have n0_ := am_ (Kd.R_below (by (with_reducible repeat (first | apply r1_ | apply r2_ | apply r3_)); exact HO_4.out) hb)
     have n1_ := am_ (Kd.R_below (by (with_reducible repeat (first | apply r1_ | apply r2_ | apply r3_)); exact HO308.out) hb)
     have n2_ := am_ (blk_below (g := gb303) (o := .cells #[.int .i64 t297, .int .i64 t298] 26 (0, 0)) (by (with_reducible repeat (first | refine k1_ ?_ _ | refine k2_ ?_ | refine k3_ ?_ _)); exact BK303.out) hb)
     have n3_ := am_ (below_step (by repeat (first | (with_reducible first | exact HB.out | apply b1_ | apply b2_ | apply b3_ | refine below_set ?_ GE303.out) | exact HB.out)) hb)
     replace HO_4 := n0_
     replace HO308 := n1_
     replace BK303 := n2_
     replace HB := n3_
     clear n0_ n1_ n2_ n3_
     (try clear hb)
     (try clear hb2)
     (try clear hk)
     (try clear hi)
     refine hK.out _ _ ⟨(blk_cell BK303.out 0).trans rfl, (blk_cell BK303.out 1).trans rfl⟩ (fun hHeld => ?_)
     clear hK K
     refine norm_ (a' := ?_) ?_ ?_
     rotate_left
     ·show Act.put _ (some 59) _ = _
      simp only [Act.put, ls1, ls2, ls3, i64_w, i32_w]
      rfl
     refine pu_ 6 (some 7) ?_ (bz 7 127) rfl rfl (by kernel_rfl) (fun _ _ _ h => h) (Or.inl ⟨by rfl, ?_⟩) ?_ ?_ ?_; rotate_left; (intro w'; go_simp; with_reducible rfl); rotate_left; (simp only [Act.put, ls1, ls2, ls3, i64_w, i32_w]; rfl)
     refine done_ (by kernel_rfl) ?_
     try go_wp2
     have n0_ := am_ (r3_ HO_4.out)
     have n1_ := am_ (r3_ HO308.out)
     have n2_ := am_ (k2_ BK303.out)
     have n3_ := am_ (b3_ HB.out)
     replace HO_4 := n0_
     replace HO308 := n1_
     replace BK303 := n2_
     replace HB := n3_
     clear n0_ n1_ n2_ n3_
     refine start_ (n := 29) (S := fun w' => w'.cell? ⟨gb303, 0, none⟩ = some (.int .i64 t297) ∧ w'.cell? ⟨gb303, 1, none⟩ = some (.int .i64 t298)) (ds := []) (bz 29 0) (by kernel_rfl) rfl rfl ⟨(blk_cell BK303.out 0).trans rfl, (blk_cell BK303.out 1).trans rfl⟩ (fun hHeld => ?_); refine with_tabW laws_FnStorms.tab9 laws_FnStorms.bits9 (fun HT_ HW_ => ?_)
     generalize w96.drew = w97 at HO_4 HO308 BK303 HB hHeld ⊢
     refine pu_ 0 (some 60) ?_ (bz 29 1) rfl rfl (any_of HT_.out (by kernel_rfl)) (fun _ _ _ h => h) (Or.inl ⟨by rfl, ?_⟩) ?_ ?_ ?_; rotate_left; (intro w'; go_simp; with_reducible rfl); rotate_left; (simp only [Act.put, ls1, ls2, ls3, i64_w, i32_w]; rfl)
     refine pu_ 1 (some 61) ?_ (bz 29 3) rfl rfl (any_of HT_.out (by kernel_rfl)) (fun _ _ _ h => h) (Or.inl ⟨by rfl, ?_⟩) ?_ ?_ ?_; rotate_left; (intro w'; go_simp; with_reducible rfl); rotate_left; (simp only [Act.put, ls1, ls2, ls3, i64_w, i32_w]; rfl)
     refine pu_ 2 (some 62) ?_ (bz 29 7) rfl rfl (any_of HT_.out (by kernel_rfl)) (fun _ _ _ h => h) (Or.inl ⟨by rfl, ?_⟩) ?_ ?_ ?_; rotate_left; (intro w'; go_simp; with_reducible rfl); rotate_left; (simp only [Act.put, ls1, ls2, ls3, i64_w, i32_w]; rfl)
     refine pu_ 3 (some 63) ?_ (bz 29 15) rfl rfl (any_of HT_.out (by kernel_rfl)) (fun _ _ _ h => h) (Or.inl ⟨by rfl, ?_⟩) ?_ ?_ ?_; rotate_left; (intro w'; go_simp; with_reducible rfl); rotate_left; (simp only [Act.put, ls1, ls2, ls3, i64_w, i32_w]; rfl)
     refine pu_ 4 (some 64) ?_ (bz 29 31) rfl rfl (any_of HT_.out (by kernel_rfl)) (fun _ _ _ h => h) (Or.inl ⟨by rfl, ?_⟩) ?_ ?_ ?_; rotate_left; (intro w'; go_simp; with_reducible rfl); rotate_left; (simp only [Act.put, ls1, ls2, ls3, i64_w, i32_w]; rfl)
     refine pu_ 6 (some 66) ?_ (bz 29 95) rfl rfl (any_of HT_.out (by kernel_rfl)) (fun _ _ _ h => h) (Or.inl ⟨by rfl, ?_⟩) ?_ ?_ ?_; rotate_left; (intro w'; go_simp; with_reducible rfl); rotate_left; (simp only [Act.put, ls1, ls2, ls3, i64_w, i32_w]; rfl)
     refine take_ (i := 5) (N := some 65) (v := ?_) (a' := ?_) (bz 29 127) rfl rfl (take_ofW HT_.out HW_.out (by kernel_rfl)) (fun _ _ _ h => h) (Or.inl ⟨by rfl, ?_⟩) hHeld ?_ ?_; rotate_left; (rintro w' ⟨s0, s1⟩; go_simp; with_reducible rfl); rotate_left; (simp only [Act.put, ls1, ls2, ls3, i64_w, i32_w]; rfl)
     refine one_ (i := 7) (N := some 67) (bz 29 255) rfl rfl (one_of HT_.out (by kernel_rfl)) (by decide) (fun K hK => ?_)
     refine goes_ Try.func53 (by kernel_rfl) rfl #[.agg #[.int .i64 t297, .int .i64 t298], .slice Ao12 t299.length co12] (by rfl) rfl rfl (by (try simp only [mt_, mc_, mn_]); first | done | rfl | (simp only [ld_, lt_]; rfl)) ?_
     with_reducible refine (impl_MayStorm.calls kj5 t297 t298 _ _ t299 true _ ?side1 ?side2 A61.out).mono ?_
     (case side1 => repeat (first | exact (Kd.R_reads' HO_4.out).2.2 | (with_reducible first | refine c1_ ?_ _ | refine c2_ ?_ _ | refine c3_ ?_)))
     (case side2 => exact (Kd.R_reads' HO_4.out).2.1)
     rintro e w98 ⟨rfl, hb⟩
     refine ⟨_, rfl, ?_⟩
     have n0_ := am_ (Kd.R_below (by (with_reducible repeat (first | apply r1_ | apply r2_ | apply r3_)); exact HO_4.out) hb)
     have n1_ := am_ (Kd.R_below (by (with_reducible repeat (first | apply r1_ | apply r2_ | apply r3_)); exact HO308.out) hb)
     have n2_ := am_ (blk_below (g := gb303) (o := .cells #[.int .i64 t297, .int .i64 t298] 26 (0, 0)) (by (with_reducible repeat (first | refine k1_ ?_ _ | refine k2_ ?_ | refine k3_ ?_ _)); exact BK303.out) hb)
     have n3_ := am_ (below_step (by repeat (first | (with_reducible first | exact HB.out | apply b1_ | apply b2_ | apply b3_ | refine below_set ?_ GE303.out) | exact HB.out)) hb)
     replace HO_4 := n0_
     replace HO308 := n1_
     replace BK303 := n2_
     replace HB := n3_
     clear n0_ n1_ n2_ n3_
     (try clear hb)
     (try clear hb2)
     (try clear hk)
     (try clear hi)
     refine hK.out _ _ ⟨(blk_cell BK303.out 0).trans rfl, (blk_cell BK303.out 1).trans rfl⟩ (fun hHeld => ?_)
     clear hK K
     refine norm_ (a' := ?_) ?_ ?_
     rotate_left
     ·show Act.put _ (some 67) _ = _
      simp only [Act.put, ls1, ls2, ls3, i64_w, i32_w]
      rfl
     refine pu_ 8 (some 68) ?_ (bz 29 511) rfl rfl (any_of HT_.out (by kernel_rfl)) (fun _ _ _ h => h) (Or.inl ⟨by rfl, ?_⟩) ?_ ?_ ?_; rotate_left; (intro w'; go_simp; with_reducible rfl); rotate_left; (simp only [Act.put, ls1, ls2, ls3, i64_w, i32_w]; rfl)
     refine pu_ 10 (some 70) ?_ (bz 29 1535) rfl rfl (any_of HT_.out (by kernel_rfl)) (fun _ _ _ h => h) (Or.inl ⟨by rfl, ?_⟩) ?_ ?_ ?_; rotate_left; (intro w'; go_simp; with_reducible rfl); rotate_left; (simp only [Act.put, ls1, ls2, ls3, i64_w, i32_w]; rfl)
     refine pu_ 12 (some 72) ?_ (bz 29 5631) rfl rfl (any_of HT_.out (by kernel_rfl)) (fun _ _ _ h => h) (Or.inl ⟨by rfl, ?_⟩) ?_ ?_ ?_; rotate_left; (intro w'; go_simp; with_reducible rfl); rotate_left; (simp only [Act.put, ls1, ls2, ls3, i64_w, i32_w]; rfl)
     refine pu_ 14 (some 74) ?_ (bz 29 22015) rfl rfl (any_of HT_.out (by kernel_rfl)) (fun _ _ _ h => h) (Or.inl ⟨by rfl, ?_⟩) ?_ ?_ ?_; rotate_left; (intro w'; go_simp; with_reducible rfl); rotate_left; (simp only [Act.put, ls1, ls2, ls3, i64_w, i32_w]; rfl)
     refine pu_ 15 (some 75) ?_ (bz 29 54783) rfl rfl (any_of HT_.out (by kernel_rfl)) (fun _ _ _ h => h) (Or.inl ⟨by rfl, ?_⟩) ?_ ?_ ?_; rotate_left; (intro w'; go_simp; with_reducible rfl); rotate_left; (simp only [Act.put, ls1, ls2, ls3, i64_w, i32_w]; rfl)
     refine take_ (i := 9) (N := some 69) (v := ?_) (a' := ?_) (bz 29 55295) rfl rfl (take_ofW HT_.out HW_.out (by kernel_rfl)) (fun _ _ _ h => h) (Or.inl ⟨by rfl, ?_⟩) hHeld ?_ ?_; rotate_left; (rintro w' ⟨s0, s1⟩; go_simp; with_reducible rfl); rotate_left; (simp only [Act.put, ls1, ls2, ls3, i64_w, i32_w]; rfl)
     refine one_ (i := 11) (N := some 71) (bz 29 57343) rfl rfl (one_of HT_.out (by kernel_rfl)) (by decide) (fun K hK => ?_)
     refine goes_ Try.func52 (by kernel_rfl) rfl #[.slice Ao12 t299.length co12, .bool true] (by rfl) rfl rfl (by (try simp only [mt_, mc_, mn_]); first | done | rfl | (simp only [ld_, lt_]; rfl)) ?_
     with_reducible refine (laws_longer.calls _ _ t299 true t311 _ ?side1 ?side2 A63.out).mono ?_
     (case side1 => repeat (first | exact (Kd.R_reads' HO_4.out).2.2 | (with_reducible first | refine c1_ ?_ _ | refine c2_ ?_ _ | refine c3_ ?_)))
     (case side2 => exact (Kd.R_reads' HO_4.out).2.1)
     rintro e w99 ⟨v312, rfl, ho0, hb⟩
     refine ⟨_, rfl, ?_⟩
     have n0_ := am_ (Kd.R_elder' (by (with_reducible repeat (first | apply r1_ | apply r2_ | apply r3_)); exact HO_4.out) (Kd.R_base ho0) hb)
     have n1_ := am_ (Kd.R_elder' (by (with_reducible repeat (first | apply r1_ | apply r2_ | apply r3_)); exact HO308.out) (Kd.R_base ho0) hb)
     have n2_ := am_ (Kd.R_lower (Kd.R_new' (Kd.R_new' ho0 (Kd.R_lt (by (with_reducible repeat (first | apply r1_ | apply r2_ | apply r3_)); exact HO_4.out))) (Kd.R_lt (by (with_reducible repeat (first | apply r1_ | apply r2_ | apply r3_)); exact HO308.out))) (below_size (by repeat (first | (with_reducible first | exact HB.out | apply b1_ | apply b2_ | apply b3_ | refine below_set ?_ GE303.out) | exact HB.out))))
     have n3_ := am_ (blk_below (g := gb303) (o := .cells #[.int .i64 t297, .int .i64 t298] 26 (0, 0)) (by (with_reducible repeat (first | refine k1_ ?_ _ | refine k2_ ?_ | refine k3_ ?_ _)); exact BK303.out) hb)
     have n4_ := am_ (below_step (by repeat (first | (with_reducible first | exact HB.out | apply b1_ | apply b2_ | apply b3_ | refine below_set ?_ GE303.out) | exact HB.out)) hb)
     replace HO_4 := n0_
     replace HO308 := n1_
     have HO313 := n2_
     replace BK303 := n3_
     replace HB := n4_
     clear n0_ n1_ n2_ n3_ n4_
     (try clear hb)
     (try clear hb2)
     (try clear hk)
     (try clear hi)
     (try clear ho0)
     obtain ⟨Ao100, co100, eo100⟩ := Kd.R_slice HO313.out
     (first | subst eo100 | (injection eo100 with f1_ f2_ f3_; have f4_ := f1_.symm; have f5_ := f3_.symm; clear f1_ f2_ f3_; subst f4_; subst f5_))
     refine hK.out _ _ ⟨(blk_cell BK303.out 0).trans rfl, (blk_cell BK303.out 1).trans rfl⟩ (fun hHeld => ?_)
     clear hK K
     refine norm_ (a' := ?_) ?_ ?_
     rotate_left
     ·show Act.put _ (some 71) _ = _
      simp only [Act.put, ls1, ls2, ls3, i64_w, i32_w]
      rfl
     refine one_ (i := 13) (N := some 73) (bz 29 65535) rfl rfl (one_of HT_.out (by kernel_rfl)) (by decide) (fun K hK => ?_)
     refine goes_ Try.func18 (by kernel_rfl) rfl #[.agg #[.int .i64 t297, .int .i64 t298], .slice Ao100 t311.length co100, .int .i64 t302] (by rfl) rfl rfl (by (try simp only [mt_, mc_, mn_]); first | done | rfl | (simp only [ld_, lt_]; rfl)) ?_
     with_reducible refine (impl_WorstDays.calls kj5 t297 t298 (fun k_ => some k_ = (.slice Ao100 t311.length co100 : Value).ownBlock) _ _ t311 t302 t314 _ ?side1 A64.out).mono ?_
     (case side1 => exact Kd.R_V (Kd.R_tight rfl (Kd.R_types (HO313.out) BK303.out (by decide))))
     rintro e w101 ⟨rfl, hb⟩
     refine ⟨_, rfl, ?_⟩
     have n0_ := am_ (Kd.R_below (by (with_reducible repeat (first | apply r1_ | apply r2_ | apply r3_)); exact HO_4.out) hb)
     have n1_ := am_ (Kd.R_below (by (with_reducible repeat (first | apply r1_ | apply r2_ | apply r3_)); exact HO308.out) hb)
     have n2_ := am_ (Kd.R_below (by (with_reducible repeat (first | apply r1_ | apply r2_ | apply r3_)); exact HO313.out) hb)
     have n3_ := am_ (blk_below (g := gb303) (o := .cells #[.int .i64 t297, .int .i64 t298] 26 (0, 0)) (by (with_reducible repeat (first | refine k1_ ?_ _ | refine k2_ ?_ | refine k3_ ?_ _)); exact BK303.out) hb)
     have n4_ := am_ (below_step (by repeat (first | (with_reducible first | exact HB.out | apply b1_ | apply b2_ | apply b3_ | refine below_set ?_ GE303.out) | exact HB.out)) hb)
     replace HO_4 := n0_
     replace HO308 := n1_
     replace HO313 := n2_
     replace BK303 := n3_
     replace HB := n4_
     clear n0_ n1_ n2_ n3_ n4_
     (try clear hb)
     (try clear hb2)
     (try clear hk)
     (try clear hi)
     refine hK.out _ _ ⟨(blk_cell BK303.out 0).trans rfl, (blk_cell BK303.out 1).trans rfl⟩ (fun hHeld => ?_)
     clear hK K
     refine norm_ (a' := ?_) ?_ ?_
     rotate_left
     ·show Act.put _ (some 73) _ = _
      simp only [Act.put, ls1, ls2, ls3, i64_w, i32_w]
      rfl
     refine pu_ 16 (some 76) ?_ (bz 29 131071) rfl rfl (any_of HT_.out (by kernel_rfl)) (fun _ _ _ h => h) (Or.inl ⟨by rfl, ?_⟩) ?_ ?_ ?_; rotate_left; (intro w'; go_simp; with_reducible rfl); rotate_left; (simp only [Act.put, ls1, ls2, ls3, i64_w, i32_w]; rfl)
     refine pu_ 17 (some 77) ?_ (bz 29 262143) rfl rfl (any_of HT_.out (by kernel_rfl)) (fun _ _ _ h => h) (Or.inl ⟨by rfl, ?_⟩) ?_ ?_ ?_; rotate_left; (intro w'; go_simp; with_reducible rfl); rotate_left; (simp only [Act.put, ls1, ls2, ls3, i64_w, i32_w]; rfl)
     refine pu_ 18 (some 78) ?_ (bz 29 524287) rfl rfl (any_of HT_.out (by kernel_rfl)) (fun _ _ _ h => h) (Or.inl ⟨by rfl, ?_⟩) ?_ ?_ ?_; rotate_left; (intro w'; go_simp; with_reducible rfl); rotate_left; (simp only [Act.put, ls1, ls2, ls3, i64_w, i32_w]; rfl)
     refine pu_ 19 (some 79) ?_ (bz 29 1048575) rfl rfl (any_of HT_.out (by kernel_rfl)) (fun _ _ _ h => h) (Or.inl ⟨by rfl, ?_⟩) ?_ ?_ ?_; rotate_left; (intro w'; go_simp; with_reducible rfl); rotate_left; (simp only [Act.put, ls1, ls2, ls3, i64_w, i32_w]; rfl)
     refine pu_ 20 (some 80) undef (bz 29 2097151) rfl rfl (any_of HT_.out (by kernel_rfl)) (fun _ _ _ h => h) (Or.inr ⟨by rfl, rfl⟩) ?_ ?_ ?_
     rotate_left
     ·simp only [Act.put, ls1, ls2, ls3, i64_w, i32_w]
      rfl
     refine pu_ 21 (some 81) undef (bz 29 4194303) rfl rfl (any_of HT_.out (by kernel_rfl)) (fun _ _ _ h => h) (Or.inr ⟨by rfl, rfl⟩) ?_ ?_ ?_
     rotate_left
     ·simp only [Act.put, ls1, ls2, ls3, i64_w, i32_w]
      rfl
     refine pu_ 22 (some 82) undef (bz 29 8388607) rfl rfl (any_of HT_.out (by kernel_rfl)) (fun _ _ _ h => h) (Or.inr ⟨by rfl, rfl⟩) ?_ ?_ ?_
     rotate_left
     ·simp only [Act.put, ls1, ls2, ls3, i64_w, i32_w]
      rfl
     refine pu_ 23 (some 83) undef (bz 29 16777215) rfl rfl (any_of HT_.out (by kernel_rfl)) (fun _ _ _ h => h) (Or.inr ⟨by rfl, rfl⟩) ?_ ?_ ?_
     rotate_left
     ·simp only [Act.put, ls1, ls2, ls3, i64_w, i32_w]
      rfl
     refine pu_ 24 (some 84) undef (bz 29 33554431) rfl rfl (any_of HT_.out (by kernel_rfl)) (fun _ _ _ h => h) (Or.inr ⟨by rfl, rfl⟩) ?_ ?_ ?_
     rotate_left
     ·simp only [Act.put, ls1, ls2, ls3, i64_w, i32_w]
      rfl
     refine pu_ 25 (some 85) undef (bz 29 67108863) rfl rfl (any_of HT_.out (by kernel_rfl)) (fun _ _ _ h => h) (Or.inr ⟨by rfl, rfl⟩) ?_ ?_ ?_
     rotate_left
     ·simp only [Act.put, ls1, ls2, ls3, i64_w, i32_w]
      rfl
     refine pu_ 26 (some 86) undef (bz 29 134217727) rfl rfl (any_of HT_.out (by kernel_rfl)) (fun _ _ _ h => h) (Or.inr ⟨by rfl, rfl⟩) ?_ ?_ ?_
     rotate_left
     ·simp only [Act.put, ls1, ls2, ls3, i64_w, i32_w]
      rfl
     refine pu_ 27 (some 87) undef (bz 29 268435455) rfl rfl (any_of HT_.out (by kernel_rfl)) (fun _ _ _ h => h) (Or.inr ⟨by rfl, rfl⟩) ?_ ?_ ?_
     rotate_left
     ·simp only [Act.put, ls1, ls2, ls3, i64_w, i32_w]
      rfl
     refine pu_ 28 (some 88) ?_ (bz 29 536870911) rfl rfl (any_of HT_.out (by kernel_rfl)) (fun _ _ _ h => h) (Or.inl ⟨by rfl, ?_⟩) ?_ ?_ ?_; rotate_left; (intro w'; go_simp; with_reducible rfl); rotate_left; (simp only [Act.put, ls1, ls2, ls3, i64_w, i32_w]; rfl)
     refine done_ (done_of HT_.out (by kernel_rfl)) ?_
     try go_wp2
     go_ret
     exact ⟨by first | rfl | (simp [errW_none, errW_some] <;> rfl) | (simp [*, errW_none, errW_some] <;> rfl), by repeat (first | (with_reducible first | exact HB.out | apply b1_ | apply b2_ | apply b3_ | refine below_set ?_ GE303.out) | exact HB.out)⟩
    rw [if_pos c65] at H
    have c65b0 : (t314 == (wrap64 (t304 - 1))) = true := beq_iff_eq.mpr c65
    have c65b1 : (t314 != (wrap64 (t304 - 1))) = false := bne_eq_false_iff_eq.mpr c65
    clear c65
    replace H := Option.bind_eq_some_iff.mp H
    obtain ⟨t315, A660, H⟩ := H
    replace H : ((impl_WorstDays.f kj5 t297 t298 t315 (wrap64 (t302 - 1))).bind fun t318 => (if t318 = t309 then (laws_FnStorms.j1 kj5 l0) else (some false))) = some r := H
    have A66 := am_ A660
    clear A660
    replace H := Option.bind_eq_some_iff.mp H
    obtain ⟨t318, A670, H⟩ := H
    replace H : (if t318 = t309 then (laws_FnStorms.j1 kj5 l0) else (some false)) = some r := H
    have A67 := am_ A670
    clear A670
    by_cases c68 : t318 = t309
    ·rw [if_pos c68] at H
     have c68b0 : (t318 == t309) = true := beq_iff_eq.mpr c68
     have c68b1 : (t318 != t309) = false := bne_eq_false_iff_eq.mpr c68
     clear c68
     have H' := am_ H
     clear H
     try go_wp2
     have n0_ := am_ (r3_ HO_4.out)
     have n1_ := am_ (k2_ BK303.out)
     have n2_ := am_ (b3_ HB.out)
     replace HO_4 := n0_
     replace BK303 := n1_
     replace HB := n2_
     clear n0_ n1_ n2_
     refine start_ (n := 7) (S := fun w' => w'.cell? ⟨gb303, 0, none⟩ = some (.int .i64 t297) ∧ w'.cell? ⟨gb303, 1, none⟩ = some (.int .i64 t298)) (ds := []) (bz 7 0) (by kernel_rfl) rfl rfl ⟨(blk_cell BK303.out 0).trans rfl, (blk_cell BK303.out 1).trans rfl⟩ (fun hHeld => ?_)
     generalize wc.drew = w69 at HO_4 BK303 HB hHeld ⊢
     refine pu_ 1 (some 55) ?_ (bz 7 2) rfl rfl (by kernel_rfl) (fun _ _ _ h => h) (Or.inl ⟨by rfl, ?_⟩) ?_ ?_ ?_; rotate_left; (intro w'; go_simp; with_reducible rfl); rotate_left; (simp only [Act.put, ls1, ls2, ls3, i64_w, i32_w]; rfl)
     refine pu_ 3 (some 57) ?_ (bz 7 10) rfl rfl (by kernel_rfl) (fun _ _ _ h => h) (Or.inl ⟨by rfl, ?_⟩) ?_ ?_ ?_; rotate_left; (intro w'; go_simp; with_reducible rfl); rotate_left; (simp only [Act.put, ls1, ls2, ls3, i64_w, i32_w]; rfl)
     refine pu_ 4 (some 58) ?_ (bz 7 26) rfl rfl (by kernel_rfl) (fun _ _ _ h => h) (Or.inl ⟨by rfl, ?_⟩) ?_ ?_ ?_; rotate_left; (intro w'; go_simp; with_reducible rfl); rotate_left; (simp only [Act.put, ls1, ls2, ls3, i64_w, i32_w]; rfl)
     refine take_ (i := 0) (N := some 54) (v := ?_) (a' := ?_) (bz 7 27) rfl rfl (by kernel_rfl) (fun _ _ _ h => h) (Or.inl ⟨by rfl, ?_⟩) hHeld ?_ ?_; rotate_left; (rintro w' ⟨s0, s1⟩; go_simp; with_reducible rfl); rotate_left; (simp only [Act.put, ls1, ls2, ls3, i64_w, i32_w]; rfl)
     refine one_ (i := 2) (N := some 56) (bz 7 31) rfl rfl (by kernel_rfl) (by decide) (fun K hK => ?_)
     refine goes_ Try.func52 (by kernel_rfl) rfl #[.slice Ao12 t299.length co12, .bool false] (by rfl) rfl rfl (by (try simp only [mt_, mc_, mn_]); first | done | rfl | (simp only [ld_, lt_]; rfl)) ?_
     with_reducible refine (laws_longer.calls _ _ t299 false t306 _ ?side1 ?side2 A53.out).mono ?_
     (case side1 => repeat (first | exact (Kd.R_reads' HO_4.out).2.2 | (with_reducible first | refine c1_ ?_ _ | refine c2_ ?_ _ | refine c3_ ?_)))
     (case side2 => exact (Kd.R_reads' HO_4.out).2.1)
     rintro e w70 ⟨v307, rfl, ho0, hb⟩
     refine ⟨_, rfl, ?_⟩
     have n0_ := am_ (Kd.R_elder' (by (with_reducible repeat (first | apply r1_ | apply r2_ | apply r3_)); exact HO_4.out) (Kd.R_base ho0) hb)
     have n1_ := am_ (Kd.R_lower (Kd.R_new' ho0 (Kd.R_lt (by (with_reducible repeat (first | apply r1_ | apply r2_ | apply r3_)); exact HO_4.out))) (below_size (by repeat (first | (with_reducible first | exact HB.out | apply b1_ | apply b2_ | apply b3_ | refine below_set ?_ GE303.out) | exact HB.out))))
     have n2_ := am_ (blk_below (g := gb303) (o := .cells #[.int .i64 t297, .int .i64 t298] 26 (0, 0)) (by (with_reducible repeat (first | refine k1_ ?_ _ | refine k2_ ?_ | refine k3_ ?_ _)); exact BK303.out) hb)
     have n3_ := am_ (below_step (by repeat (first | (with_reducible first | exact HB.out | apply b1_ | apply b2_ | apply b3_ | refine below_set ?_ GE303.out) | exact HB.out)) hb)
     replace HO_4 := n0_
     have HO308 := n1_
     replace BK303 := n2_
     replace HB := n3_
     clear n0_ n1_ n2_ n3_
     (try clear hb)
     (try clear hb2)
     (try clear hk)
     (try clear hi)
     (try clear ho0)
     obtain ⟨Ao71, co71, eo71⟩ := Kd.R_slice HO308.out
     (first | subst eo71 | (injection eo71 with f1_ f2_ f3_; have f4_ := f1_.symm; have f5_ := f3_.symm; clear f1_ f2_ f3_; subst f4_; subst f5_))
     refine hK.out _ _ ⟨(blk_cell BK303.out 0).trans rfl, (blk_cell BK303.out 1).trans rfl⟩ (fun hHeld => ?_)
     clear hK K
     refine norm_ (a' := ?_) ?_ ?_
     rotate_left
     ·show Act.put _ (some 56) _ = _
      simp only [Act.put, ls1, ls2, ls3, i64_w, i32_w]
      rfl
     refine one_ (i := 5) (N := some 59) (bz 7 63) rfl rfl (by kernel_rfl) (by decide) (fun K hK => ?_)
     refine goes_ Try.func18 (by kernel_rfl) rfl #[.agg #[.int .i64 t297, .int .i64 t298], .slice Ao71 t306.length co71, .int .i64 (wrap64 (t302 - 1))] (by rfl) rfl rfl (by (try simp only [mt_, mc_, mn_]); first | done | rfl | (simp only [ld_, lt_]; rfl)) ?_
     with_reducible refine (impl_WorstDays.calls kj5 t297 t298 (fun k_ => some k_ = (.slice Ao71 t306.length co71 : Value).ownBlock) _ _ t306 (wrap64 (t302 - 1)) t309 _ ?side1 A54.out).mono ?_
     (case side1 => exact Kd.R_V (Kd.R_tight rfl (Kd.R_types (HO308.out) BK303.out (by decide))))
     rintro e w72 ⟨rfl, hb⟩
     refine ⟨_, rfl, ?_⟩
     have n0_ := am_ (Kd.R_below (by (with_reducible repeat (first | apply r1_ | apply r2_ | apply r3_)); exact HO_4.out) hb)
     have n1_ := am_ (Kd.R_below (by (with_reducible repeat (first | apply r1_ | apply r2_ | apply r3_)); exact HO308.out) hb)
     have n2_ := am_ (blk_below (g := gb303) (o := .cells #[.int .i64 t297, .int .i64 t298] 26 (0, 0)) (by (with_reducible repeat (first | refine k1_ ?_ _ | refine k2_ ?_ | refine k3_ ?_ _)); exact BK303.out) hb)
     have n3_ := am_ (below_step (by repeat (first | (with_reducible first | exact HB.out | apply b1_ | apply b2_ | apply b3_ | refine below_set ?_ GE303.out) | exact HB.out)) hb)
     replace HO_4 := n0_
     replace HO308 := n1_
     replace BK303 := n2_
     replace HB := n3_
     clear n0_ n1_ n2_ n3_
     (try clear hb)
     (try clear hb2)
     (try clear hk)
     (try clear hi)
     refine hK.out _ _ ⟨(blk_cell BK303.out 0).trans rfl, (blk_cell BK303.out 1).trans rfl⟩ (fun hHeld => ?_)
     clear hK K
     refine norm_ (a' := ?_) ?_ ?_
     rotate_left
     ·show Act.put _ (some 59) _ = _
      simp only [Act.put, ls1, ls2, ls3, i64_w, i32_w]
      rfl
     refine pu_ 6 (some 7) ?_ (bz 7 127) rfl rfl (by kernel_rfl) (fun _ _ _ h => h) (Or.inl ⟨by rfl, ?_⟩) ?_ ?_ ?_; rotate_left; (intro w'; go_simp; with_reducible rfl); rotate_left; (simp only [Act.put, ls1, ls2, ls3, i64_w, i32_w]; rfl)
     refine done_ (by kernel_rfl) ?_
     try go_wp2
     have n0_ := am_ (r3_ HO_4.out)
     have n1_ := am_ (r3_ HO308.out)
     have n2_ := am_ (k2_ BK303.out)
     have n3_ := am_ (b3_ HB.out)
     replace HO_4 := n0_
     replace HO308 := n1_
     replace BK303 := n2_
     replace HB := n3_
     clear n0_ n1_ n2_ n3_
     refine start_ (n := 29) (S := fun w' => w'.cell? ⟨gb303, 0, none⟩ = some (.int .i64 t297) ∧ w'.cell? ⟨gb303, 1, none⟩ = some (.int .i64 t298)) (ds := []) (bz 29 0) (by kernel_rfl) rfl rfl ⟨(blk_cell BK303.out 0).trans rfl, (blk_cell BK303.out 1).trans rfl⟩ (fun hHeld => ?_); refine with_tabW laws_FnStorms.tab9 laws_FnStorms.bits9 (fun HT_ HW_ => ?_)
     generalize w72.drew = w73 at HO_4 HO308 BK303 HB hHeld ⊢
     refine pu_ 0 (some 60) ?_ (bz 29 1) rfl rfl (any_of HT_.out (by kernel_rfl)) (fun _ _ _ h => h) (Or.inl ⟨by rfl, ?_⟩) ?_ ?_ ?_; rotate_left; (intro w'; go_simp; with_reducible rfl); rotate_left; (simp only [Act.put, ls1, ls2, ls3, i64_w, i32_w]; rfl)
     refine pu_ 1 (some 61) ?_ (bz 29 3) rfl rfl (any_of HT_.out (by kernel_rfl)) (fun _ _ _ h => h) (Or.inl ⟨by rfl, ?_⟩) ?_ ?_ ?_; rotate_left; (intro w'; go_simp; with_reducible rfl); rotate_left; (simp only [Act.put, ls1, ls2, ls3, i64_w, i32_w]; rfl)
     refine pu_ 2 (some 62) ?_ (bz 29 7) rfl rfl (any_of HT_.out (by kernel_rfl)) (fun _ _ _ h => h) (Or.inl ⟨by rfl, ?_⟩) ?_ ?_ ?_; rotate_left; (intro w'; go_simp; with_reducible rfl); rotate_left; (simp only [Act.put, ls1, ls2, ls3, i64_w, i32_w]; rfl)
     refine pu_ 3 (some 63) ?_ (bz 29 15) rfl rfl (any_of HT_.out (by kernel_rfl)) (fun _ _ _ h => h) (Or.inl ⟨by rfl, ?_⟩) ?_ ?_ ?_; rotate_left; (intro w'; go_simp; with_reducible rfl); rotate_left; (simp only [Act.put, ls1, ls2, ls3, i64_w, i32_w]; rfl)
     refine pu_ 4 (some 64) ?_ (bz 29 31) rfl rfl (any_of HT_.out (by kernel_rfl)) (fun _ _ _ h => h) (Or.inl ⟨by rfl, ?_⟩) ?_ ?_ ?_; rotate_left; (intro w'; go_simp; with_reducible rfl); rotate_left; (simp only [Act.put, ls1, ls2, ls3, i64_w, i32_w]; rfl)
     refine pu_ 6 (some 66) ?_ (bz 29 95) rfl rfl (any_of HT_.out (by kernel_rfl)) (fun _ _ _ h => h) (Or.inl ⟨by rfl, ?_⟩) ?_ ?_ ?_; rotate_left; (intro w'; go_simp; with_reducible rfl); rotate_left; (simp only [Act.put, ls1, ls2, ls3, i64_w, i32_w]; rfl)
     refine take_ (i := 5) (N := some 65) (v := ?_) (a' := ?_) (bz 29 127) rfl rfl (take_ofW HT_.out HW_.out (by kernel_rfl)) (fun _ _ _ h => h) (Or.inl ⟨by rfl, ?_⟩) hHeld ?_ ?_; rotate_left; (rintro w' ⟨s0, s1⟩; go_simp; with_reducible rfl); rotate_left; (simp only [Act.put, ls1, ls2, ls3, i64_w, i32_w]; rfl)
     refine one_ (i := 7) (N := some 67) (bz 29 255) rfl rfl (one_of HT_.out (by kernel_rfl)) (by decide) (fun K hK => ?_)
     refine goes_ Try.func53 (by kernel_rfl) rfl #[.agg #[.int .i64 t297, .int .i64 t298], .slice Ao12 t299.length co12] (by rfl) rfl rfl (by (try simp only [mt_, mc_, mn_]); first | done | rfl | (simp only [ld_, lt_]; rfl)) ?_
     with_reducible refine (impl_MayStorm.calls kj5 t297 t298 _ _ t299 true _ ?side1 ?side2 A61.out).mono ?_
     (case side1 => repeat (first | exact (Kd.R_reads' HO_4.out).2.2 | (with_reducible first | refine c1_ ?_ _ | refine c2_ ?_ _ | refine c3_ ?_)))
     (case side2 => exact (Kd.R_reads' HO_4.out).2.1)
     rintro e w74 ⟨rfl, hb⟩
     refine ⟨_, rfl, ?_⟩
     have n0_ := am_ (Kd.R_below (by (with_reducible repeat (first | apply r1_ | apply r2_ | apply r3_)); exact HO_4.out) hb)
     have n1_ := am_ (Kd.R_below (by (with_reducible repeat (first | apply r1_ | apply r2_ | apply r3_)); exact HO308.out) hb)
     have n2_ := am_ (blk_below (g := gb303) (o := .cells #[.int .i64 t297, .int .i64 t298] 26 (0, 0)) (by (with_reducible repeat (first | refine k1_ ?_ _ | refine k2_ ?_ | refine k3_ ?_ _)); exact BK303.out) hb)
     have n3_ := am_ (below_step (by repeat (first | (with_reducible first | exact HB.out | apply b1_ | apply b2_ | apply b3_ | refine below_set ?_ GE303.out) | exact HB.out)) hb)
     replace HO_4 := n0_
     replace HO308 := n1_
     replace BK303 := n2_
     replace HB := n3_
     clear n0_ n1_ n2_ n3_
     (try clear hb)
     (try clear hb2)
     (try clear hk)
     (try clear hi)
     refine hK.out _ _ ⟨(blk_cell BK303.out 0).trans rfl, (blk_cell BK303.out 1).trans rfl⟩ (fun hHeld => ?_)
     clear hK K
     refine norm_ (a' := ?_) ?_ ?_
     rotate_left
     ·show Act.put _ (some 67) _ = _
      simp only [Act.put, ls1, ls2, ls3, i64_w, i32_w]
      rfl
     refine pu_ 8 (some 68) ?_ (bz 29 511) rfl rfl (any_of HT_.out (by kernel_rfl)) (fun _ _ _ h => h) (Or.inl ⟨by rfl, ?_⟩) ?_ ?_ ?_; rotate_left; (intro w'; go_simp; with_reducible rfl); rotate_left; (simp only [Act.put, ls1, ls2, ls3, i64_w, i32_w]; rfl)
     refine pu_ 10 (some 70) ?_ (bz 29 1535) rfl rfl (any_of HT_.out (by kernel_rfl)) (fun _ _ _ h => h) (Or.inl ⟨by rfl, ?_⟩) ?_ ?_ ?_; rotate_left; (intro w'; go_simp; with_reducible rfl); rotate_left; (simp only [Act.put, ls1, ls2, ls3, i64_w, i32_w]; rfl)
     refine pu_ 12 (some 72) ?_ (bz 29 5631) rfl rfl (any_of HT_.out (by kernel_rfl)) (fun _ _ _ h => h) (Or.inl ⟨by rfl, ?_⟩) ?_ ?_ ?_; rotate_left; (intro w'; go_simp; with_reducible rfl); rotate_left; (simp only [Act.put, ls1, ls2, ls3, i64_w, i32_w]; rfl)
     refine pu_ 14 (some 74) ?_ (bz 29 22015) rfl rfl (any_of HT_.out (by kernel_rfl)) (fun _ _ _ h => h) (Or.inl ⟨by rfl, ?_⟩) ?_ ?_ ?_; rotate_left; (intro w'; go_simp; with_reducible rfl); rotate_left; (simp only [Act.put, ls1, ls2, ls3, i64_w, i32_w]; rfl)
     refine pu_ 15 (some 75) ?_ (bz 29 54783) rfl rfl (any_of HT_.out (by kernel_rfl)) (fun _ _ _ h => h) (Or.inl ⟨by rfl, ?_⟩) ?_ ?_ ?_; rotate_left; (intro w'; go_simp; with_reducible rfl); rotate_left; (simp only [Act.put, ls1, ls2, ls3, i64_w, i32_w]; rfl)
     refine take_ (i := 9) (N := some 69) (v := ?_) (a' := ?_) (bz 29 55295) rfl rfl (take_ofW HT_.out HW_.out (by kernel_rfl)) (fun _ _ _ h => h) (Or.inl ⟨by rfl, ?_⟩) hHeld ?_ ?_; rotate_left; (rintro w' ⟨s0, s1⟩; go_simp; with_reducible rfl); rotate_left; (simp only [Act.put, ls1, ls2, ls3, i64_w, i32_w]; rfl)
     refine one_ (i := 11) (N := some 71) (bz 29 57343) rfl rfl (one_of HT_.out (by kernel_rfl)) (by decide) (fun K hK => ?_)
     refine goes_ Try.func52 (by kernel_rfl) rfl #[.slice Ao12 t299.length co12, .bool true] (by rfl) rfl rfl (by (try simp only [mt_, mc_, mn_]); first | done | rfl | (simp only [ld_, lt_]; rfl)) ?_
     with_reducible refine (laws_longer.calls _ _ t299 true t311 _ ?side1 ?side2 A63.out).mono ?_
     (case side1 => repeat (first | exact (Kd.R_reads' HO_4.out).2.2 | (with_reducible first | refine c1_ ?_ _ | refine c2_ ?_ _ | refine c3_ ?_)))
     (case side2 => exact (Kd.R_reads' HO_4.out).2.1)
     rintro e w75 ⟨v312, rfl, ho0, hb⟩
     refine ⟨_, rfl, ?_⟩
     have n0_ := am_ (Kd.R_elder' (by (with_reducible repeat (first | apply r1_ | apply r2_ | apply r3_)); exact HO_4.out) (Kd.R_base ho0) hb)
     have n1_ := am_ (Kd.R_elder' (by (with_reducible repeat (first | apply r1_ | apply r2_ | apply r3_)); exact HO308.out) (Kd.R_base ho0) hb)
     have n2_ := am_ (Kd.R_lower (Kd.R_new' (Kd.R_new' ho0 (Kd.R_lt (by (with_reducible repeat (first | apply r1_ | apply r2_ | apply r3_)); exact HO_4.out))) (Kd.R_lt (by (with_reducible repeat (first | apply r1_ | apply r2_ | apply r3_)); exact HO308.out))) (below_size (by repeat (first | (with_reducible first | exact HB.out | apply b1_ | apply b2_ | apply b3_ | refine below_set ?_ GE303.out) | exact HB.out))))
     have n3_ := am_ (blk_below (g := gb303) (o := .cells #[.int .i64 t297, .int .i64 t298] 26 (0, 0)) (by (with_reducible repeat (first | refine k1_ ?_ _ | refine k2_ ?_ | refine k3_ ?_ _)); exact BK303.out) hb)
     have n4_ := am_ (below_step (by repeat (first | (with_reducible first | exact HB.out | apply b1_ | apply b2_ | apply b3_ | refine below_set ?_ GE303.out) | exact HB.out)) hb)
     replace HO_4 := n0_
     replace HO308 := n1_
     have HO313 := n2_
     replace BK303 := n3_
     replace HB := n4_
     clear n0_ n1_ n2_ n3_ n4_
     (try clear hb)
     (try clear hb2)
     (try clear hk)
     (try clear hi)
     (try clear ho0)
     obtain ⟨Ao76, co76, eo76⟩ := Kd.R_slice HO313.out
     (first | subst eo76 | (injection eo76 with f1_ f2_ f3_; have f4_ := f1_.symm; have f5_ := f3_.symm; clear f1_ f2_ f3_; subst f4_; subst f5_))
     refine hK.out _ _ ⟨(blk_cell BK303.out 0).trans rfl, (blk_cell BK303.out 1).trans rfl⟩ (fun hHeld => ?_)
     clear hK K
     refine norm_ (a' := ?_) ?_ ?_
     rotate_left
     ·show Act.put _ (some 71) _ = _
      simp only [Act.put, ls1, ls2, ls3, i64_w, i32_w]
      rfl
     refine one_ (i := 13) (N := some 73) (bz 29 65535) rfl rfl (one_of HT_.out (by kernel_rfl)) (by decide) (fun K hK => ?_)
     refine goes_ Try.func18 (by kernel_rfl) rfl #[.agg #[.int .i64 t297, .int .i64 t298], .slice Ao76 t311.length co76, .int .i64 t302] (by rfl) rfl rfl (by (try simp only [mt_, mc_, mn_]); first | done | rfl | (simp only [ld_, lt_]; rfl)) ?_
     with_reducible refine (impl_WorstDays.calls kj5 t297 t298 (fun k_ => some k_ = (.slice Ao76 t311.length co76 : Value).ownBlock) _ _ t311 t302 t314 _ ?side1 A64.out).mono ?_
     (case side1 => exact Kd.R_V (Kd.R_tight rfl (Kd.R_types (HO313.out) BK303.out (by decide))))
     rintro e w77 ⟨rfl, hb⟩
     refine ⟨_, rfl, ?_⟩
     have n0_ := am_ (Kd.R_below (by (with_reducible repeat (first | apply r1_ | apply r2_ | apply r3_)); exact HO_4.out) hb)
     have n1_ := am_ (Kd.R_below (by (with_reducible repeat (first | apply r1_ | apply r2_ | apply r3_)); exact HO308.out) hb)
     have n2_ := am_ (Kd.R_below (by (with_reducible repeat (first | apply r1_ | apply r2_ | apply r3_)); exact HO313.out) hb)
     have n3_ := am_ (blk_below (g := gb303) (o := .cells #[.int .i64 t297, .int .i64 t298] 26 (0, 0)) (by (with_reducible repeat (first | refine k1_ ?_ _ | refine k2_ ?_ | refine k3_ ?_ _)); exact BK303.out) hb)
     have n4_ := am_ (below_step (by repeat (first | (with_reducible first | exact HB.out | apply b1_ | apply b2_ | apply b3_ | refine below_set ?_ GE303.out) | exact HB.out)) hb)
     replace HO_4 := n0_
     replace HO308 := n1_
     replace HO313 := n2_
     replace BK303 := n3_
     replace HB := n4_
     clear n0_ n1_ n2_ n3_ n4_
     (try clear hb)
     (try clear hb2)
     (try clear hk)
     (try clear hi)
     refine hK.out _ _ ⟨(blk_cell BK303.out 0).trans rfl, (blk_cell BK303.out 1).trans rfl⟩ (fun hHeld => ?_)
     clear hK K
     refine norm_ (a' := ?_) ?_ ?_
     rotate_left
     ·show Act.put _ (some 73) _ = _
      simp only [Act.put, ls1, ls2, ls3, i64_w, i32_w]
      rfl
     refine pu_ 16 (some 76) ?_ (bz 29 131071) rfl rfl (any_of HT_.out (by kernel_rfl)) (fun _ _ _ h => h) (Or.inl ⟨by rfl, ?_⟩) ?_ ?_ ?_; rotate_left; (intro w'; go_simp; with_reducible rfl); rotate_left; (simp only [Act.put, ls1, ls2, ls3, i64_w, i32_w]; rfl)
     refine pu_ 17 (some 77) ?_ (bz 29 262143) rfl rfl (any_of HT_.out (by kernel_rfl)) (fun _ _ _ h => h) (Or.inl ⟨by rfl, ?_⟩) ?_ ?_ ?_; rotate_left; (intro w'; go_simp; with_reducible rfl); rotate_left; (simp only [Act.put, ls1, ls2, ls3, i64_w, i32_w]; rfl)
     refine pu_ 18 (some 78) ?_ (bz 29 524287) rfl rfl (any_of HT_.out (by kernel_rfl)) (fun _ _ _ h => h) (Or.inl ⟨by rfl, ?_⟩) ?_ ?_ ?_; rotate_left; (intro w'; go_simp; with_reducible rfl); rotate_left; (simp only [Act.put, ls1, ls2, ls3, i64_w, i32_w]; rfl)
     refine pu_ 19 (some 79) ?_ (bz 29 1048575) rfl rfl (any_of HT_.out (by kernel_rfl)) (fun _ _ _ h => h) (Or.inl ⟨by rfl, ?_⟩) ?_ ?_ ?_; rotate_left; (intro w'; go_simp; with_reducible rfl); rotate_left; (simp only [Act.put, ls1, ls2, ls3, i64_w, i32_w]; rfl)
     refine pu_ 21 (some 81) ?_ (bz 29 3145727) rfl rfl (any_of HT_.out (by kernel_rfl)) (fun _ _ _ h => h) (Or.inl ⟨by rfl, ?_⟩) ?_ ?_ ?_; rotate_left; (intro w'; go_simp; with_reducible rfl); rotate_left; (simp only [Act.put, ls1, ls2, ls3, i64_w, i32_w]; rfl)
     refine pu_ 23 (some 83) ?_ (bz 29 11534335) rfl rfl (any_of HT_.out (by kernel_rfl)) (fun _ _ _ h => h) (Or.inl ⟨by rfl, ?_⟩) ?_ ?_ ?_; rotate_left; (intro w'; go_simp; with_reducible rfl); rotate_left; (simp only [Act.put, ls1, ls2, ls3, i64_w, i32_w]; rfl)
     refine pu_ 24 (some 84) ?_ (bz 29 28311551) rfl rfl (any_of HT_.out (by kernel_rfl)) (fun _ _ _ h => h) (Or.inl ⟨by rfl, ?_⟩) ?_ ?_ ?_; rotate_left; (intro w'; go_simp; with_reducible rfl); rotate_left; (simp only [Act.put, ls1, ls2, ls3, i64_w, i32_w]; rfl)
     refine pu_ 26 (some 86) ?_ (bz 29 95420415) rfl rfl (any_of HT_.out (by kernel_rfl)) (fun _ _ _ h => h) (Or.inl ⟨by rfl, ?_⟩) ?_ ?_ ?_; rotate_left; (intro w'; go_simp; with_reducible rfl); rotate_left; (simp only [Act.put, ls1, ls2, ls3, i64_w, i32_w]; rfl)
     refine take_ (i := 20) (N := some 80) (v := ?_) (a' := ?_) (bz 29 96468991) rfl rfl (take_ofW HT_.out HW_.out (by kernel_rfl)) (fun _ _ _ h => h) (Or.inl ⟨by rfl, ?_⟩) hHeld ?_ ?_; rotate_left; (rintro w' ⟨s0, s1⟩; go_simp; with_reducible rfl); rotate_left; (simp only [Act.put, ls1, ls2, ls3, i64_w, i32_w]; rfl)
     refine one_ (i := 22) (N := some 82) (bz 29 100663295) rfl rfl (one_of HT_.out (by kernel_rfl)) (by decide) (fun K hK => ?_)
     refine goes_ Try.func54 (by kernel_rfl) rfl #[.slice Ao12 t299.length co12, .bool false] (by rfl) rfl rfl (by (try simp only [mt_, mc_, mn_]); first | done | rfl | (simp only [ld_, lt_]; rfl)) ?_
     with_reducible refine (impl_AddDay.calls _ _ t299 false t315 _ ?side1 ?side2 A66.out).mono ?_
     (case side1 => repeat (first | exact (Kd.R_reads' HO_4.out).2.2 | (with_reducible first | refine c1_ ?_ _ | refine c2_ ?_ _ | refine c3_ ?_)))
     (case side2 => exact (Kd.R_reads' HO_4.out).2.1)
     rintro e w78 ⟨v316, rfl, ho0, hb⟩
     refine ⟨_, rfl, ?_⟩
     have n0_ := am_ (Kd.R_elder' (by (with_reducible repeat (first | apply r1_ | apply r2_ | apply r3_)); exact HO_4.out) (Kd.R_base ho0) hb)
     have n1_ := am_ (Kd.R_elder' (by (with_reducible repeat (first | apply r1_ | apply r2_ | apply r3_)); exact HO308.out) (Kd.R_base ho0) hb)
     have n2_ := am_ (Kd.R_elder' (by (with_reducible repeat (first | apply r1_ | apply r2_ | apply r3_)); exact HO313.out) (Kd.R_base ho0) hb)
     have n3_ := am_ (Kd.R_lower (Kd.R_new' (Kd.R_new' (Kd.R_new' ho0 (Kd.R_lt (by (with_reducible repeat (first | apply r1_ | apply r2_ | apply r3_)); exact HO_4.out))) (Kd.R_lt (by (with_reducible repeat (first | apply r1_ | apply r2_ | apply r3_)); exact HO308.out))) (Kd.R_lt (by (with_reducible repeat (first | apply r1_ | apply r2_ | apply r3_)); exact HO313.out))) (below_size (by repeat (first | (with_reducible first | exact HB.out | apply b1_ | apply b2_ | apply b3_ | refine below_set ?_ GE303.out) | exact HB.out))))
     have n4_ := am_ (blk_below (g := gb303) (o := .cells #[.int .i64 t297, .int .i64 t298] 26 (0, 0)) (by (with_reducible repeat (first | refine k1_ ?_ _ | refine k2_ ?_ | refine k3_ ?_ _)); exact BK303.out) hb)
     have n5_ := am_ (below_step (by repeat (first | (with_reducible first | exact HB.out | apply b1_ | apply b2_ | apply b3_ | refine below_set ?_ GE303.out) | exact HB.out)) hb)
     replace HO_4 := n0_
     replace HO308 := n1_
     replace HO313 := n2_
     have HO317 := n3_
     replace BK303 := n4_
     replace HB := n5_
     clear n0_ n1_ n2_ n3_ n4_ n5_
     (try clear hb)
     (try clear hb2)
     (try clear hk)
     (try clear hi)
     (try clear ho0)
     obtain ⟨Ao79, co79, eo79⟩ := Kd.R_slice HO317.out
     (first | subst eo79 | (injection eo79 with f1_ f2_ f3_; have f4_ := f1_.symm; have f5_ := f3_.symm; clear f1_ f2_ f3_; subst f4_; subst f5_))
     refine hK.out _ _ ⟨(blk_cell BK303.out 0).trans rfl, (blk_cell BK303.out 1).trans rfl⟩ (fun hHeld => ?_)
     clear hK K
     refine norm_ (a' := ?_) ?_ ?_
     rotate_left
     ·show Act.put _ (some 82) _ = _
      simp only [Act.put, ls1, ls2, ls3, i64_w, i32_w]
      rfl
     refine one_ (i := 25) (N := some 85) (bz 29 134217727) rfl rfl (one_of HT_.out (by kernel_rfl)) (by decide) (fun K hK => ?_)
     refine goes_ Try.func18 (by kernel_rfl) rfl #[.agg #[.int .i64 t297, .int .i64 t298], .slice Ao79 t315.length co79, .int .i64 (wrap64 (t302 - 1))] (by rfl) rfl rfl (by (try simp only [mt_, mc_, mn_]); first | done | rfl | (simp only [ld_, lt_]; rfl)) ?_
     with_reducible refine (impl_WorstDays.calls kj5 t297 t298 (fun k_ => some k_ = (.slice Ao79 t315.length co79 : Value).ownBlock) _ _ t315 (wrap64 (t302 - 1)) t318 _ ?side1 A67.out).mono ?_
     (case side1 => exact Kd.R_V (Kd.R_tight rfl (Kd.R_types (HO317.out) BK303.out (by decide))))
     rintro e w80 ⟨rfl, hb⟩
     refine ⟨_, rfl, ?_⟩
     have n0_ := am_ (Kd.R_below (by (with_reducible repeat (first | apply r1_ | apply r2_ | apply r3_)); exact HO_4.out) hb)
     have n1_ := am_ (Kd.R_below (by (with_reducible repeat (first | apply r1_ | apply r2_ | apply r3_)); exact HO308.out) hb)
     have n2_ := am_ (Kd.R_below (by (with_reducible repeat (first | apply r1_ | apply r2_ | apply r3_)); exact HO313.out) hb)
     have n3_ := am_ (Kd.R_below (by (with_reducible repeat (first | apply r1_ | apply r2_ | apply r3_)); exact HO317.out) hb)
     have n4_ := am_ (blk_below (g := gb303) (o := .cells #[.int .i64 t297, .int .i64 t298] 26 (0, 0)) (by (with_reducible repeat (first | refine k1_ ?_ _ | refine k2_ ?_ | refine k3_ ?_ _)); exact BK303.out) hb)
     have n5_ := am_ (below_step (by repeat (first | (with_reducible first | exact HB.out | apply b1_ | apply b2_ | apply b3_ | refine below_set ?_ GE303.out) | exact HB.out)) hb)
     replace HO_4 := n0_
     replace HO308 := n1_
     replace HO313 := n2_
     replace HO317 := n3_
     replace BK303 := n4_
     replace HB := n5_
     clear n0_ n1_ n2_ n3_ n4_ n5_
     (try clear hb)
     (try clear hb2)
     (try clear hk)
     (try clear hi)
     refine hK.out _ _ ⟨(blk_cell BK303.out 0).trans rfl, (blk_cell BK303.out 1).trans rfl⟩ (fun hHeld => ?_)
     clear hK K
     refine norm_ (a' := ?_) ?_ ?_
     rotate_left
     ·show Act.put _ (some 85) _ = _
      simp only [Act.put, ls1, ls2, ls3, i64_w, i32_w]
      rfl
     refine pu_ 27 (some 87) ?_ (bz 29 268435455) rfl rfl (any_of HT_.out (by kernel_rfl)) (fun _ _ _ h => h) (Or.inl ⟨by rfl, ?_⟩) ?_ ?_ ?_; rotate_left; (intro w'; go_simp; with_reducible rfl); rotate_left; (simp only [Act.put, ls1, ls2, ls3, i64_w, i32_w]; rfl)
     refine pu_ 28 (some 88) ?_ (bz 29 536870911) rfl rfl (any_of HT_.out (by kernel_rfl)) (fun _ _ _ h => h) (Or.inl ⟨by rfl, ?_⟩) ?_ ?_ ?_; rotate_left; (intro w'; go_simp; with_reducible rfl); rotate_left; (simp only [Act.put, ls1, ls2, ls3, i64_w, i32_w]; rfl)
     refine done_ (done_of HT_.out (by kernel_rfl)) ?_
     try go_wp2
     go_meet
     case rel => exact ⟨_, H', ⟨by have := HJ5.out; first | omega | exact Nat.le_refl _⟩, ⟨by (with_reducible repeat (first | refine k1_ ?_ _ | refine k2_ ?_ | refine k3_ ?_ _)); exact BK303.out⟩, ⟨by repeat (first | (with_reducible first | exact HB.out | apply b1_ | apply b2_ | apply b3_ | refine below_set ?_ GE303.out) | exact HB.out)⟩⟩
    rw [if_neg c68] at H
    have c68b0 : (t318 == t309) = false := beq_eq_false_iff_ne.mpr c68
    have c68b1 : (t318 != t309) = true := bne_iff_ne.mpr c68
    obtain rfl := Option.some.inj H
    try go_wp2
    have n0_ := am_ (r3_ HO_4.out)
    have n1_ := am_ (k2_ BK303.out)
    have n2_ := am_ (b3_ HB.out)
    replace HO_4 := n0_
    replace BK303 := n1_
    replace HB := n2_
    clear n0_ n1_ n2_
    refine start_ (n := 7) (S := fun w' => w'.cell? ⟨gb303, 0, none⟩ = some (.int .i64 t297) ∧ w'.cell? ⟨gb303, 1, none⟩ = some (.int .i64 t298)) (ds := []) (bz 7 0) (by kernel_rfl) rfl rfl ⟨(blk_cell BK303.out 0).trans rfl, (blk_cell BK303.out 1).trans rfl⟩ (fun hHeld => ?_)
    generalize wc.drew = w81 at HO_4 BK303 HB hHeld ⊢
    refine pu_ 1 (some 55) ?_ (bz 7 2) rfl rfl (by kernel_rfl) (fun _ _ _ h => h) (Or.inl ⟨by rfl, ?_⟩) ?_ ?_ ?_; rotate_left; (intro w'; go_simp; with_reducible rfl); rotate_left; (simp only [Act.put, ls1, ls2, ls3, i64_w, i32_w]; rfl)
    refine pu_ 3 (some 57) ?_ (bz 7 10) rfl rfl (by kernel_rfl) (fun _ _ _ h => h) (Or.inl ⟨by rfl, ?_⟩) ?_ ?_ ?_; rotate_left; (intro w'; go_simp; with_reducible rfl); rotate_left; (simp only [Act.put, ls1, ls2, ls3, i64_w, i32_w]; rfl)
    refine pu_ 4 (some 58) ?_ (bz 7 26) rfl rfl (by kernel_rfl) (fun _ _ _ h => h) (Or.inl ⟨by rfl, ?_⟩) ?_ ?_ ?_; rotate_left; (intro w'; go_simp; with_reducible rfl); rotate_left; (simp only [Act.put, ls1, ls2, ls3, i64_w, i32_w]; rfl)
    refine take_ (i := 0) (N := some 54) (v := ?_) (a' := ?_) (bz 7 27) rfl rfl (by kernel_rfl) (fun _ _ _ h => h) (Or.inl ⟨by rfl, ?_⟩) hHeld ?_ ?_; rotate_left; (rintro w' ⟨s0, s1⟩; go_simp; with_reducible rfl); rotate_left; (simp only [Act.put, ls1, ls2, ls3, i64_w, i32_w]; rfl)
    refine one_ (i := 2) (N := some 56) (bz 7 31) rfl rfl (by kernel_rfl) (by decide) (fun K hK => ?_)
    refine goes_ Try.func52 (by kernel_rfl) rfl #[.slice Ao12 t299.length co12, .bool false] (by rfl) rfl rfl (by (try simp only [mt_, mc_, mn_]); first | done | rfl | (simp only [ld_, lt_]; rfl)) ?_
    with_reducible refine (laws_longer.calls _ _ t299 false t306 _ ?side1 ?side2 A53.out).mono ?_
    (case side1 => repeat (first | exact (Kd.R_reads' HO_4.out).2.2 | (with_reducible first | refine c1_ ?_ _ | refine c2_ ?_ _ | refine c3_ ?_)))
    (case side2 => exact (Kd.R_reads' HO_4.out).2.1)
    rintro e w82 ⟨v307, rfl, ho0, hb⟩
    refine ⟨_, rfl, ?_⟩
    have n0_ := am_ (Kd.R_elder' (by (with_reducible repeat (first | apply r1_ | apply r2_ | apply r3_)); exact HO_4.out) (Kd.R_base ho0) hb)
    have n1_ := am_ (Kd.R_lower (Kd.R_new' ho0 (Kd.R_lt (by (with_reducible repeat (first | apply r1_ | apply r2_ | apply r3_)); exact HO_4.out))) (below_size (by repeat (first | (with_reducible first | exact HB.out | apply b1_ | apply b2_ | apply b3_ | refine below_set ?_ GE303.out) | exact HB.out))))
    have n2_ := am_ (blk_below (g := gb303) (o := .cells #[.int .i64 t297, .int .i64 t298] 26 (0, 0)) (by (with_reducible repeat (first | refine k1_ ?_ _ | refine k2_ ?_ | refine k3_ ?_ _)); exact BK303.out) hb)
    have n3_ := am_ (below_step (by repeat (first | (with_reducible first | exact HB.out | apply b1_ | apply b2_ | apply b3_ | refine below_set ?_ GE303.out) | exact HB.out)) hb)
    replace HO_4 := n0_
    have HO308 := n1_
    replace BK303 := n2_
    replace HB := n3_
    clear n0_ n1_ n2_ n3_
    (try clear hb)
    (try clear hb2)
    (try clear hk)
    (try clear hi)
    (try clear ho0)
    obtain ⟨Ao83, co83, eo83⟩ := Kd.R_slice HO308.out
    (first | subst eo83 | (injection eo83 with f1_ f2_ f3_; have f4_ := f1_.symm; have f5_ := f3_.symm; clear f1_ f2_ f3_; subst f4_; subst f5_))
    refine hK.out _ _ ⟨(blk_cell BK303.out 0).trans rfl, (blk_cell BK303.out 1).trans rfl⟩ (fun hHeld => ?_)
    clear hK K
    refine norm_ (a' := ?_) ?_ ?_
    rotate_left
    ·show Act.put _ (some 56) _ = _
     simp only [Act.put, ls1, ls2, ls3, i64_w, i32_w]
     rfl
    refine one_ (i := 5) (N := some 59) (bz 7 63) rfl rfl (by kernel_rfl) (by decide) (fun K hK => ?_)
    refine goes_ Try.func18 (by kernel_rfl) rfl #[.agg #[.int .i64 t297, .int .i64 t298], .slice Ao83 t306.length co83, .int .i64 (wrap64 (t302 - 1))] (by rfl) rfl rfl (by (try simp only [mt_, mc_, mn_]); first | done | rfl | (simp only [ld_, lt_]; rfl)) ?_
    with_reducible refine (impl_WorstDays.calls kj5 t297 t298 (fun k_ => some k_ = (.slice Ao83 t306.length co83 : Value).ownBlock) _ _ t306 (wrap64 (t302 - 1)) t309 _ ?side1 A54.out).mono ?_
    (case side1 => exact Kd.R_V (Kd.R_tight rfl (Kd.R_types (HO308.out) BK303.out (by decide))))
    rintro e w84 ⟨rfl, hb⟩
    refine ⟨_, rfl, ?_⟩
    have n0_ := am_ (Kd.R_below (by (with_reducible repeat (first | apply r1_ | apply r2_ | apply r3_)); exact HO_4.out) hb)
    have n1_ := am_ (Kd.R_below (by (with_reducible repeat (first | apply r1_ | apply r2_ | apply r3_)); exact HO308.out) hb)
    have n2_ := am_ (blk_below (g := gb303) (o := .cells #[.int .i64 t297, .int .i64 t298] 26 (0, 0)) (by (with_reducible repeat (first | refine k1_ ?_ _ | refine k2_ ?_ | refine k3_ ?_ _)); exact BK303.out) hb)
    have n3_ := am_ (below_step (by repeat (first | (with_reducible first | exact HB.out | apply b1_ | apply b2_ | apply b3_ | refine below_set ?_ GE303.out) | exact HB.out)) hb)
    replace HO_4 := n0_
    replace HO308 := n1_
    replace BK303 := n2_
    replace HB := n3_
    clear n0_ n1_ n2_ n3_
    (try clear hb)
    (try clear hb2)
    (try clear hk)
    (try clear hi)
    refine hK.out _ _ ⟨(blk_cell BK303.out 0).trans rfl, (blk_cell BK303.out 1).trans rfl⟩ (fun hHeld => ?_)
    clear hK K
    refine norm_ (a' := ?_) ?_ ?_
    rotate_left
    ·show Act.put _ (some 59) _ = _
     simp only [Act.put, ls1, ls2, ls3, i64_w, i32_w]
     rfl
    refine pu_ 6 (some 7) ?_ (bz 7 127) rfl rfl (by kernel_rfl) (fun _ _ _ h => h) (Or.inl ⟨by rfl, ?_⟩) ?_ ?_ ?_; rotate_left; (intro w'; go_simp; with_reducible rfl); rotate_left; (simp only [Act.put, ls1, ls2, ls3, i64_w, i32_w]; rfl)
    refine done_ (by kernel_rfl) ?_
    try go_wp2
    have n0_ := am_ (r3_ HO_4.out)
    have n1_ := am_ (r3_ HO308.out)
    have n2_ := am_ (k2_ BK303.out)
    have n3_ := am_ (b3_ HB.out)
    replace HO_4 := n0_
    replace HO308 := n1_
    replace BK303 := n2_
    replace HB := n3_
    clear n0_ n1_ n2_ n3_
    refine start_ (n := 29) (S := fun w' => w'.cell? ⟨gb303, 0, none⟩ = some (.int .i64 t297) ∧ w'.cell? ⟨gb303, 1, none⟩ = some (.int .i64 t298)) (ds := []) (bz 29 0) (by kernel_rfl) rfl rfl ⟨(blk_cell BK303.out 0).trans rfl, (blk_cell BK303.out 1).trans rfl⟩ (fun hHeld => ?_); refine with_tabW laws_FnStorms.tab9 laws_FnStorms.bits9 (fun HT_ HW_ => ?_)
    generalize w84.drew = w85 at HO_4 HO308 BK303 HB hHeld ⊢
    refine pu_ 0 (some 60) ?_ (bz 29 1) rfl rfl (any_of HT_.out (by kernel_rfl)) (fun _ _ _ h => h) (Or.inl ⟨by rfl, ?_⟩) ?_ ?_ ?_; rotate_left; (intro w'; go_simp; with_reducible rfl); rotate_left; (simp only [Act.put, ls1, ls2, ls3, i64_w, i32_w]; rfl)
    refine pu_ 1 (some 61) ?_ (bz 29 3) rfl rfl (any_of HT_.out (by kernel_rfl)) (fun _ _ _ h => h) (Or.inl ⟨by rfl, ?_⟩) ?_ ?_ ?_; rotate_left; (intro w'; go_simp; with_reducible rfl); rotate_left; (simp only [Act.put, ls1, ls2, ls3, i64_w, i32_w]; rfl)
    refine pu_ 2 (some 62) ?_ (bz 29 7) rfl rfl (any_of HT_.out (by kernel_rfl)) (fun _ _ _ h => h) (Or.inl ⟨by rfl, ?_⟩) ?_ ?_ ?_; rotate_left; (intro w'; go_simp; with_reducible rfl); rotate_left; (simp only [Act.put, ls1, ls2, ls3, i64_w, i32_w]; rfl)
    refine pu_ 3 (some 63) ?_ (bz 29 15) rfl rfl (any_of HT_.out (by kernel_rfl)) (fun _ _ _ h => h) (Or.inl ⟨by rfl, ?_⟩) ?_ ?_ ?_; rotate_left; (intro w'; go_simp; with_reducible rfl); rotate_left; (simp only [Act.put, ls1, ls2, ls3, i64_w, i32_w]; rfl)
    refine pu_ 4 (some 64) ?_ (bz 29 31) rfl rfl (any_of HT_.out (by kernel_rfl)) (fun _ _ _ h => h) (Or.inl ⟨by rfl, ?_⟩) ?_ ?_ ?_; rotate_left; (intro w'; go_simp; with_reducible rfl); rotate_left; (simp only [Act.put, ls1, ls2, ls3, i64_w, i32_w]; rfl)
    refine pu_ 6 (some 66) ?_ (bz 29 95) rfl rfl (any_of HT_.out (by kernel_rfl)) (fun _ _ _ h => h) (Or.inl ⟨by rfl, ?_⟩) ?_ ?_ ?_; rotate_left; (intro w'; go_simp; with_reducible rfl); rotate_left; (simp only [Act.put, ls1, ls2, ls3, i64_w, i32_w]; rfl)
    refine take_ (i := 5) (N := some 65) (v := ?_) (a' := ?_) (bz 29 127) rfl rfl (take_ofW HT_.out HW_.out (by kernel_rfl)) (fun _ _ _ h => h) (Or.inl ⟨by rfl, ?_⟩) hHeld ?_ ?_; rotate_left; (rintro w' ⟨s0, s1⟩; go_simp; with_reducible rfl); rotate_left; (simp only [Act.put, ls1, ls2, ls3, i64_w, i32_w]; rfl)
    refine one_ (i := 7) (N := some 67) (bz 29 255) rfl rfl (one_of HT_.out (by kernel_rfl)) (by decide) (fun K hK => ?_)
    refine goes_ Try.func53 (by kernel_rfl) rfl #[.agg #[.int .i64 t297, .int .i64 t298], .slice Ao12 t299.length co12] (by rfl) rfl rfl (by (try simp only [mt_, mc_, mn_]); first | done | rfl | (simp only [ld_, lt_]; rfl)) ?_
    with_reducible refine (impl_MayStorm.calls kj5 t297 t298 _ _ t299 true _ ?side1 ?side2 A61.out).mono ?_
    (case side1 => repeat (first | exact (Kd.R_reads' HO_4.out).2.2 | (with_reducible first | refine c1_ ?_ _ | refine c2_ ?_ _ | refine c3_ ?_)))
    (case side2 => exact (Kd.R_reads' HO_4.out).2.1)
    rintro e w86 ⟨rfl, hb⟩
    refine ⟨_, rfl, ?_⟩
    have n0_ := am_ (Kd.R_below (by (with_reducible repeat (first | apply r1_ | apply r2_ | apply r3_)); exact HO_4.out) hb)
    have n1_ := am_ (Kd.R_below (by (with_reducible repeat (first | apply r1_ | apply r2_ | apply r3_)); exact HO308.out) hb)
    have n2_ := am_ (blk_below (g := gb303) (o := .cells #[.int .i64 t297, .int .i64 t298] 26 (0, 0)) (by (with_reducible repeat (first | refine k1_ ?_ _ | refine k2_ ?_ | refine k3_ ?_ _)); exact BK303.out) hb)
    have n3_ := am_ (below_step (by repeat (first | (with_reducible first | exact HB.out | apply b1_ | apply b2_ | apply b3_ | refine below_set ?_ GE303.out) | exact HB.out)) hb)
    replace HO_4 := n0_
    replace HO308 := n1_
    replace BK303 := n2_
    replace HB := n3_
    clear n0_ n1_ n2_ n3_
    (try clear hb)
    (try clear hb2)
    (try clear hk)
    (try clear hi)
    refine hK.out _ _ ⟨(blk_cell BK303.out 0).trans rfl, (blk_cell BK303.out 1).trans rfl⟩ (fun hHeld => ?_)
    clear hK K
    refine norm_ (a' := ?_) ?_ ?_
    rotate_left
    ·show Act.put _ (some 67) _ = _
     simp only [Act.put, ls1, ls2, ls3, i64_w, i32_w]
     rfl
    refine pu_ 8 (some 68) ?_ (bz 29 511) rfl rfl (any_of HT_.out (by kernel_rfl)) (fun _ _ _ h => h) (Or.inl ⟨by rfl, ?_⟩) ?_ ?_ ?_; rotate_left; (intro w'; go_simp; with_reducible rfl); rotate_left; (simp only [Act.put, ls1, ls2, ls3, i64_w, i32_w]; rfl)
    refine pu_ 10 (some 70) ?_ (bz 29 1535) rfl rfl (any_of HT_.out (by kernel_rfl)) (fun _ _ _ h => h) (Or.inl ⟨by rfl, ?_⟩) ?_ ?_ ?_; rotate_left; (intro w'; go_simp; with_reducible rfl); rotate_left; (simp only [Act.put, ls1, ls2, ls3, i64_w, i32_w]; rfl)
    refine pu_ 12 (some 72) ?_ (bz 29 5631) rfl rfl (any_of HT_.out (by kernel_rfl)) (fun _ _ _ h => h) (Or.inl ⟨by rfl, ?_⟩) ?_ ?_ ?_; rotate_left; (intro w'; go_simp; with_reducible rfl); rotate_left; (simp only [Act.put, ls1, ls2, ls3, i64_w, i32_w]; rfl)
    refine pu_ 14 (some 74) ?_ (bz 29 22015) rfl rfl (any_of HT_.out (by kernel_rfl)) (fun _ _ _ h => h) (Or.inl ⟨by rfl, ?_⟩) ?_ ?_ ?_; rotate_left; (intro w'; go_simp; with_reducible rfl); rotate_left; (simp only [Act.put, ls1, ls2, ls3, i64_w, i32_w]; rfl)
    refine pu_ 15 (some 75) ?_ (bz 29 54783) rfl rfl (any_of HT_.out (by kernel_rfl)) (fun _ _ _ h => h) (Or.inl ⟨by rfl, ?_⟩) ?_ ?_ ?_; rotate_left; (intro w'; go_simp; with_reducible rfl); rotate_left; (simp only [Act.put, ls1, ls2, ls3, i64_w, i32_w]; rfl)
    refine take_ (i := 9) (N := some 69) (v := ?_) (a' := ?_) (bz 29 55295) rfl rfl (take_ofW HT_.out HW_.out (by kernel_rfl)) (fun _ _ _ h => h) (Or.inl ⟨by rfl, ?_⟩) hHeld ?_ ?_; rotate_left; (rintro w' ⟨s0, s1⟩; go_simp; with_reducible rfl); rotate_left; (simp only [Act.put, ls1, ls2, ls3, i64_w, i32_w]; rfl)
    refine one_ (i := 11) (N := some 71) (bz 29 57343) rfl rfl (one_of HT_.out (by kernel_rfl)) (by decide) (fun K hK => ?_)
    refine goes_ Try.func52 (by kernel_rfl) rfl #[.slice Ao12 t299.length co12, .bool true] (by rfl) rfl rfl (by (try simp only [mt_, mc_, mn_]); first | done | rfl | (simp only [ld_, lt_]; rfl)) ?_
    with_reducible refine (laws_longer.calls _ _ t299 true t311 _ ?side1 ?side2 A63.out).mono ?_
    (case side1 => repeat (first | exact (Kd.R_reads' HO_4.out).2.2 | (with_reducible first | refine c1_ ?_ _ | refine c2_ ?_ _ | refine c3_ ?_)))
    (case side2 => exact (Kd.R_reads' HO_4.out).2.1)
    rintro e w87 ⟨v312, rfl, ho0, hb⟩
    refine ⟨_, rfl, ?_⟩
    have n0_ := am_ (Kd.R_elder' (by (with_reducible repeat (first | apply r1_ | apply r2_ | apply r3_)); exact HO_4.out) (Kd.R_base ho0) hb)
    have n1_ := am_ (Kd.R_elder' (by (with_reducible repeat (first | apply r1_ | apply r2_ | apply r3_)); exact HO308.out) (Kd.R_base ho0) hb)
    have n2_ := am_ (Kd.R_lower (Kd.R_new' (Kd.R_new' ho0 (Kd.R_lt (by (with_reducible repeat (first | apply r1_ | apply r2_ | apply r3_)); exact HO_4.out))) (Kd.R_lt (by (with_reducible repeat (first | apply r1_ | apply r2_ | apply r3_)); exact HO308.out))) (below_size (by repeat (first | (with_reducible first | exact HB.out | apply b1_ | apply b2_ | apply b3_ | refine below_set ?_ GE303.out) | exact HB.out))))
    have n3_ := am_ (blk_below (g := gb303) (o := .cells #[.int .i64 t297, .int .i64 t298] 26 (0, 0)) (by (with_reducible repeat (first | refine k1_ ?_ _ | refine k2_ ?_ | refine k3_ ?_ _)); exact BK303.out) hb)
    have n4_ := am_ (below_step (by repeat (first | (with_reducible first | exact HB.out | apply b1_ | apply b2_ | apply b3_ | refine below_set ?_ GE303.out) | exact HB.out)) hb)
    replace HO_4 := n0_
    replace HO308 := n1_
    have HO313 := n2_
    replace BK303 := n3_
    replace HB := n4_
    clear n0_ n1_ n2_ n3_ n4_
    (try clear hb)
    (try clear hb2)
    (try clear hk)
    (try clear hi)
    (try clear ho0)
    obtain ⟨Ao88, co88, eo88⟩ := Kd.R_slice HO313.out
    (first | subst eo88 | (injection eo88 with f1_ f2_ f3_; have f4_ := f1_.symm; have f5_ := f3_.symm; clear f1_ f2_ f3_; subst f4_; subst f5_))
    refine hK.out _ _ ⟨(blk_cell BK303.out 0).trans rfl, (blk_cell BK303.out 1).trans rfl⟩ (fun hHeld => ?_)
    clear hK K
    refine norm_ (a' := ?_) ?_ ?_
    rotate_left
    ·show Act.put _ (some 71) _ = _
     simp only [Act.put, ls1, ls2, ls3, i64_w, i32_w]
     rfl
    refine one_ (i := 13) (N := some 73) (bz 29 65535) rfl rfl (one_of HT_.out (by kernel_rfl)) (by decide) (fun K hK => ?_)
    refine goes_ Try.func18 (by kernel_rfl) rfl #[.agg #[.int .i64 t297, .int .i64 t298], .slice Ao88 t311.length co88, .int .i64 t302] (by rfl) rfl rfl (by (try simp only [mt_, mc_, mn_]); first | done | rfl | (simp only [ld_, lt_]; rfl)) ?_
    with_reducible refine (impl_WorstDays.calls kj5 t297 t298 (fun k_ => some k_ = (.slice Ao88 t311.length co88 : Value).ownBlock) _ _ t311 t302 t314 _ ?side1 A64.out).mono ?_
    (case side1 => exact Kd.R_V (Kd.R_tight rfl (Kd.R_types (HO313.out) BK303.out (by decide))))
    rintro e w89 ⟨rfl, hb⟩
    refine ⟨_, rfl, ?_⟩
    have n0_ := am_ (Kd.R_below (by (with_reducible repeat (first | apply r1_ | apply r2_ | apply r3_)); exact HO_4.out) hb)
    have n1_ := am_ (Kd.R_below (by (with_reducible repeat (first | apply r1_ | apply r2_ | apply r3_)); exact HO308.out) hb)
    have n2_ := am_ (Kd.R_below (by (with_reducible repeat (first | apply r1_ | apply r2_ | apply r3_)); exact HO313.out) hb)
    have n3_ := am_ (blk_below (g := gb303) (o := .cells #[.int .i64 t297, .int .i64 t298] 26 (0, 0)) (by (with_reducible repeat (first | refine k1_ ?_ _ | refine k2_ ?_ | refine k3_ ?_ _)); exact BK303.out) hb)
    have n4_ := am_ (below_step (by repeat (first | (with_reducible first | exact HB.out | apply b1_ | apply b2_ | apply b3_ | refine below_set ?_ GE303.out) | exact HB.out)) hb)
    replace HO_4 := n0_
    replace HO308 := n1_
    replace HO313 := n2_
    replace BK303 := n3_
    replace HB := n4_
    clear n0_ n1_ n2_ n3_ n4_
    (try clear hb)
    (try clear hb2)
    (try clear hk)
    (try clear hi)
    refine hK.out _ _ ⟨(blk_cell BK303.out 0).trans rfl, (blk_cell BK303.out 1).trans rfl⟩ (fun hHeld => ?_)
    clear hK K
    refine norm_ (a' := ?_) ?_ ?_
    rotate_left
    ·show Act.put _ (some 73) _ = _
     simp only [Act.put, ls1, ls2, ls3, i64_w, i32_w]
     rfl
    refine pu_ 16 (some 76) ?_ (bz 29 131071) rfl rfl (any_of HT_.out (by kernel_rfl)) (fun _ _ _ h => h) (Or.inl ⟨by rfl, ?_⟩) ?_ ?_ ?_; rotate_left; (intro w'; go_simp; with_reducible rfl); rotate_left; (simp only [Act.put, ls1, ls2, ls3, i64_w, i32_w]; rfl)
    refine pu_ 17 (some 77) ?_ (bz 29 262143) rfl rfl (any_of HT_.out (by kernel_rfl)) (fun _ _ _ h => h) (Or.inl ⟨by rfl, ?_⟩) ?_ ?_ ?_; rotate_left; (intro w'; go_simp; with_reducible rfl); rotate_left; (simp only [Act.put, ls1, ls2, ls3, i64_w, i32_w]; rfl)
    refine pu_ 18 (some 78) ?_ (bz 29 524287) rfl rfl (any_of HT_.out (by kernel_rfl)) (fun _ _ _ h => h) (Or.inl ⟨by rfl, ?_⟩) ?_ ?_ ?_; rotate_left; (intro w'; go_simp; with_reducible rfl); rotate_left; (simp only [Act.put, ls1, ls2, ls3, i64_w, i32_w]; rfl)
    refine pu_ 19 (some 79) ?_ (bz 29 1048575) rfl rfl (any_of HT_.out (by kernel_rfl)) (fun _ _ _ h => h) (Or.inl ⟨by rfl, ?_⟩) ?_ ?_ ?_; rotate_left; (intro w'; go_simp; with_reducible rfl); rotate_left; (simp only [Act.put, ls1, ls2, ls3, i64_w, i32_w]; rfl)
    refine pu_ 21 (some 81) ?_ (bz 29 3145727) rfl rfl (any_of HT_.out (by kernel_rfl)) (fun _ _ _ h => h) (Or.inl ⟨by rfl, ?_⟩) ?_ ?_ ?_; rotate_left; (intro w'; go_simp; with_reducible rfl); rotate_left; (simp only [Act.put, ls1, ls2, ls3, i64_w, i32_w]; rfl)
    refine pu_ 23 (some 83) ?_ (bz 29 11534335) rfl rfl (any_of HT_.out (by kernel_rfl)) (fun _ _ _ h => h) (Or.inl ⟨by rfl, ?_⟩) ?_ ?_ ?_; rotate_left; (intro w'; go_simp; with_reducible rfl); rotate_left; (simp only [Act.put, ls1, ls2, ls3, i64_w, i32_w]; rfl)
    refine pu_ 24 (some 84) ?_ (bz 29 28311551) rfl rfl (any_of HT_.out (by kernel_rfl)) (fun _ _ _ h => h) (Or.inl ⟨by rfl, ?_⟩) ?_ ?_ ?_; rotate_left; (intro w'; go_simp; with_reducible rfl); rotate_left; (simp only [Act.put, ls1, ls2, ls3, i64_w, i32_w]; rfl)
    refine pu_ 26 (some 86) ?_ (bz 29 95420415) rfl rfl (any_of HT_.out (by kernel_rfl)) (fun _ _ _ h => h) (Or.inl ⟨by rfl, ?_⟩) ?_ ?_ ?_; rotate_left; (intro w'; go_simp; with_reducible rfl); rotate_left; (simp only [Act.put, ls1, ls2, ls3, i64_w, i32_w]; rfl)
    refine take_ (i := 20) (N := some 80) (v := ?_) (a' := ?_) (bz 29 96468991) rfl rfl (take_ofW HT_.out HW_.out (by kernel_rfl)) (fun _ _ _ h => h) (Or.inl ⟨by rfl, ?_⟩) hHeld ?_ ?_; rotate_left; (rintro w' ⟨s0, s1⟩; go_simp; with_reducible rfl); rotate_left; (simp only [Act.put, ls1, ls2, ls3, i64_w, i32_w]; rfl)
    refine one_ (i := 22) (N := some 82) (bz 29 100663295) rfl rfl (one_of HT_.out (by kernel_rfl)) (by decide) (fun K hK => ?_)
    refine goes_ Try.func54 (by kernel_rfl) rfl #[.slice Ao12 t299.length co12, .bool false] (by rfl) rfl rfl (by (try simp only [mt_, mc_, mn_]); first | done | rfl | (simp only [ld_, lt_]; rfl)) ?_
    with_reducible refine (impl_AddDay.calls _ _ t299 false t315 _ ?side1 ?side2 A66.out).mono ?_
    (case side1 => repeat (first | exact (Kd.R_reads' HO_4.out).2.2 | (with_reducible first | refine c1_ ?_ _ | refine c2_ ?_ _ | refine c3_ ?_)))
    (case side2 => exact (Kd.R_reads' HO_4.out).2.1)
    rintro e w90 ⟨v316, rfl, ho0, hb⟩
    refine ⟨_, rfl, ?_⟩
    have n0_ := am_ (Kd.R_elder' (by (with_reducible repeat (first | apply r1_ | apply r2_ | apply r3_)); exact HO_4.out) (Kd.R_base ho0) hb)
    have n1_ := am_ (Kd.R_elder' (by (with_reducible repeat (first | apply r1_ | apply r2_ | apply r3_)); exact HO308.out) (Kd.R_base ho0) hb)
    have n2_ := am_ (Kd.R_elder' (by (with_reducible repeat (first | apply r1_ | apply r2_ | apply r3_)); exact HO313.out) (Kd.R_base ho0) hb)
    have n3_ := am_ (Kd.R_lower (Kd.R_new' (Kd.R_new' (Kd.R_new' ho0 (Kd.R_lt (by (with_reducible repeat (first | apply r1_ | apply r2_ | apply r3_)); exact HO_4.out))) (Kd.R_lt (by (with_reducible repeat (first | apply r1_ | apply r2_ | apply r3_)); exact HO308.out))) (Kd.R_lt (by (with_reducible repeat (first | apply r1_ | apply r2_ | apply r3_)); exact HO313.out))) (below_size (by repeat (first | (with_reducible first | exact HB.out | apply b1_ | apply b2_ | apply b3_ | refine below_set ?_ GE303.out) | exact HB.out))))
    have n4_ := am_ (blk_below (g := gb303) (o := .cells #[.int .i64 t297, .int .i64 t298] 26 (0, 0)) (by (with_reducible repeat (first | refine k1_ ?_ _ | refine k2_ ?_ | refine k3_ ?_ _)); exact BK303.out) hb)
    have n5_ := am_ (below_step (by repeat (first | (with_reducible first | exact HB.out | apply b1_ | apply b2_ | apply b3_ | refine below_set ?_ GE303.out) | exact HB.out)) hb)
    replace HO_4 := n0_
    replace HO308 := n1_
    replace HO313 := n2_
    have HO317 := n3_
    replace BK303 := n4_
    replace HB := n5_
    clear n0_ n1_ n2_ n3_ n4_ n5_
    (try clear hb)
    (try clear hb2)
    (try clear hk)
    (try clear hi)
    (try clear ho0)
    obtain ⟨Ao91, co91, eo91⟩ := Kd.R_slice HO317.out
    (first | subst eo91 | (injection eo91 with f1_ f2_ f3_; have f4_ := f1_.symm; have f5_ := f3_.symm; clear f1_ f2_ f3_; subst f4_; subst f5_))
    refine hK.out _ _ ⟨(blk_cell BK303.out 0).trans rfl, (blk_cell BK303.out 1).trans rfl⟩ (fun hHeld => ?_)
    clear hK K
    refine norm_ (a' := ?_) ?_ ?_
    rotate_left
    ·show Act.put _ (some 82) _ = _
     simp only [Act.put, ls1, ls2, ls3, i64_w, i32_w]
     rfl
    refine one_ (i := 25) (N := some 85) (bz 29 134217727) rfl rfl (one_of HT_.out (by kernel_rfl)) (by decide) (fun K hK => ?_)
    refine goes_ Try.func18 (by kernel_rfl) rfl #[.agg #[.int .i64 t297, .int .i64 t298], .slice Ao91 t315.length co91, .int .i64 (wrap64 (t302 - 1))] (by rfl) rfl rfl (by (try simp only [mt_, mc_, mn_]); first | done | rfl | (simp only [ld_, lt_]; rfl)) ?_
    with_reducible refine (impl_WorstDays.calls kj5 t297 t298 (fun k_ => some k_ = (.slice Ao91 t315.length co91 : Value).ownBlock) _ _ t315 (wrap64 (t302 - 1)) t318 _ ?side1 A67.out).mono ?_
    (case side1 => exact Kd.R_V (Kd.R_tight rfl (Kd.R_types (HO317.out) BK303.out (by decide))))
    rintro e w92 ⟨rfl, hb⟩
    refine ⟨_, rfl, ?_⟩
    have n0_ := am_ (Kd.R_below (by (with_reducible repeat (first | apply r1_ | apply r2_ | apply r3_)); exact HO_4.out) hb)
    have n1_ := am_ (Kd.R_below (by (with_reducible repeat (first | apply r1_ | apply r2_ | apply r3_)); exact HO308.out) hb)
    have n2_ := am_ (Kd.R_below (by (with_reducible repeat (first | apply r1_ | apply r2_ | apply r3_)); exact HO313.out) hb)
    have n3_ := am_ (Kd.R_below (by (with_reducible repeat (first | apply r1_ | apply r2_ | apply r3_)); exact HO317.out) hb)
    have n4_ := am_ (blk_below (g := gb303) (o := .cells #[.int .i64 t297, .int .i64 t298] 26 (0, 0)) (by (with_reducible repeat (first | refine k1_ ?_ _ | refine k2_ ?_ | refine k3_ ?_ _)); exact BK303.out) hb)
    have n5_ := am_ (below_step (by repeat (first | (with_reducible first | exact HB.out | apply b1_ | apply b2_ | apply b3_ | refine below_set ?_ GE303.out) | exact HB.out)) hb)
    replace HO_4 := n0_
    replace HO308 := n1_
    replace HO313 := n2_
    replace HO317 := n3_
    replace BK303 := n4_
    replace HB := n5_
    clear n0_ n1_ n2_ n3_ n4_ n5_
    (try clear hb)
    (try clear hb2)
    (try clear hk)
    (try clear hi)
    refine hK.out _ _ ⟨(blk_cell BK303.out 0).trans rfl, (blk_cell BK303.out 1).trans rfl⟩ (fun hHeld => ?_)
    clear hK K
    refine norm_ (a' := ?_) ?_ ?_
    rotate_left
    ·show Act.put _ (some 85) _ = _
     simp only [Act.put, ls1, ls2, ls3, i64_w, i32_w]
     rfl
    refine pu_ 27 (some 87) ?_ (bz 29 268435455) rfl rfl (any_of HT_.out (by kernel_rfl)) (fun _ _ _ h => h) (Or.inl ⟨by rfl, ?_⟩) ?_ ?_ ?_; rotate_left; (intro w'; go_simp; with_reducible rfl); rotate_left; (simp only [Act.put, ls1, ls2, ls3, i64_w, i32_w]; rfl)
    refine pu_ 28 (some 88) ?_ (bz 29 536870911) rfl rfl (any_of HT_.out (by kernel_rfl)) (fun _ _ _ h => h) (Or.inl ⟨by rfl, ?_⟩) ?_ ?_ ?_; rotate_left; (intro w'; go_simp; with_reducible rfl); rotate_left; (simp only [Act.put, ls1, ls2, ls3, i64_w, i32_w]; rfl)
    refine done_ (done_of HT_.out (by kernel_rfl)) ?_
    try go_wp2
    go_ret
    exact ⟨by first | rfl | (simp [errW_none, errW_some] <;> rfl) | (simp [*, errW_none, errW_some] <;> rfl), by repeat (first | (with_reducible first | exact HB.out | apply b1_ | apply b2_ | apply b3_ | refine below_set ?_ GE303.out) | exact HB.out)⟩
   case rest => as_aux_lemma =>
    clear HC51
    try clear c1
    try clear p2
    try clear c5
    try clear p6
    try clear c10
    try clear c18
    try clear c52
    try clear c52b0
    try clear c53
    try clear c54
    try clear p64
    try clear c104
    try clear c104b0
    try clear c104b1
    obtain ⟨kq, HA, HJ50, BK303, HB⟩ := hcut
    cases kq with
    | zero => exact absurd HA.out (by simp [laws_FnStorms.j1])
    | succ kj50 =>
     have H := HA.out
     clear HA
     simp only [laws_FnStorms.j1] at H
     replace H := Option.bind_eq_some_iff.mp H
     obtain ⟨⟨t323, t324, t325⟩, A1230, H⟩ := H
     replace H : ((impl_Keeps.f kj50 t323 t324 t325).bind fun t329 => (if t329 = true then ((laws_longer.f t325 true).bind fun t330 => ((impl_Keeps.f kj50 t323 t324 t330).bind fun t333 => ((impl_MayStorm.f kj50 t323 t324 t325).bind fun t334 => (if (t333 != t334) = true then (laws_FnStorms.j2 kj50 l0 true) else ((laws_longer.f t325 false).bind fun t335 => ((impl_Keeps.f kj50 t323 t324 t335).bind fun t338 => (laws_FnStorms.j2 kj50 l0 (!t338)))))))) else (laws_FnStorms.j2 kj50 l0 false))) = some r := H
     have A123 := am_ A1230
     clear A1230
     have HC124 := am_ H
     clear H
     go_upto_region 12 with (first | ((with_reducible refine gate_callee (f := 55) rfl ?_); refine goesL_ (some 91) rfl rfl Try.func55 (by kernel_rfl) rfl #[.slice A0 l0.length c0] rfl (by (try simp only [mt_, mc_, mn_]); first | done | rfl | (simp only [ld_, lt_]; rfl)) ?_; (with_reducible refine (spec_DrawMayStorm.calls kj50 _ _ l0 t323 t324 t325 _ ?side1 ?side2 A123.out).mono ?_); (case side1 => repeat (first | exact (Kd.C_below HR0.out HB.out) | (with_reducible first | refine c1_ ?_ _ | refine c2_ ?_ _ | refine c3_ ?_))); (case side2 => exact HC0.out); rintro e w125 ⟨v326, rfl, ho0, hb⟩; refine ⟨_, rfl, ?_⟩; have n0_ := am_ (Kd.R_lower ho0 (below_size (by repeat (first | (with_reducible first | exact HB.out | apply b1_ | apply b2_ | apply b3_ | refine below_set ?_ GE303.out) | exact HB.out)))); have n1_ := am_ (blk_below (g := gb303) (o := .cells #[.int .i64 t297, .int .i64 t298] 26 (0, 0)) (by (with_reducible repeat (first | refine k1_ ?_ _ | refine k2_ ?_ | refine k3_ ?_ _)); exact BK303.out) hb); have n2_ := am_ (below_step (by repeat (first | (with_reducible first | exact HB.out | apply b1_ | apply b2_ | apply b3_ | refine below_set ?_ GE303.out) | exact HB.out)) hb); have HO327 := n0_; replace BK303 := n1_; replace HB := n2_; clear n0_ n1_ n2_; (try clear hb); (try clear hb2); (try clear hk); (try clear hi); (try clear ho0)) | ((with_reducible refine gate_dst (N := 8) rfl ?_); (try (refine gate_guard (by rfl) ?_; dsimp only)); refine box_event ?hg (N := 8) ?hd (cs := #[.int .i64 0, .int .i64 0]) (t := 26) ?hr ?_; (case hd => rfl); (case hg => rfl); (case hr => first | (go_simp; done) | (go_simp; rfl)); intro gb328 hg w126 hbox hb; have n0_ := am_ (Kd.R_below (by (with_reducible repeat (first | apply r1_ | apply r2_ | apply r3_)); exact HO327.out) hb); have n1_ := am_ (blk_below (g := gb303) (o := .cells #[.int .i64 t297, .int .i64 t298] 26 (0, 0)) (by (with_reducible repeat (first | refine k1_ ?_ _ | refine k2_ ?_ | refine k3_ ?_ _)); exact BK303.out) hb); have n2_ := am_ (below_step (by repeat (first | (with_reducible first | exact HB.out | apply b1_ | apply b2_ | apply b3_ | refine below_set ?_ GE303.out) | exact HB.out)) hb); have n3_ := am_ (hbox); have n4_ := am_ ((by rw [hg]; exact (below_size (by repeat (first | (with_reducible first | exact HB.out | apply b1_ | apply b2_ | apply b3_ | refine below_set ?_ GE303.out) | exact HB.out))) : w.heap.size ≤ gb328)); have n5_ := am_ ((by rw [hg]; exact (below_size (by repeat (first | (with_reducible first | exact HB.out | apply b1_ | apply b2_ | apply b3_ | refine below_set ?_ GE303.out) | exact HB.out))) : w.heap.size ≤ gb328)); have n6_ := am_ ((by rw [hg]; exact Nat.ne_of_lt (blk_lt (g := gb303) (o := .cells #[.int .i64 t297, .int .i64 t298] 26 (0, 0)) (by (with_reducible repeat (first | refine k1_ ?_ _ | refine k2_ ?_ | refine k3_ ?_ _)); exact BK303.out)) : gb303 ≠ gb328)); have n7_ := am_ ((by rw [hg]; exact Nat.ne_of_gt (blk_lt (g := gb303) (o := .cells #[.int .i64 t297, .int .i64 t298] 26 (0, 0)) (by (with_reducible repeat (first | refine k1_ ?_ _ | refine k2_ ?_ | refine k3_ ?_ _)); exact BK303.out)) : gb328 ≠ gb303)); replace HO327 := n0_; replace BK303 := n1_; replace HB := n2_; have BK328 := n3_; have GW328 := n4_; have GE328 := n5_; have NB303_328 := n6_; have NB328_303 := n7_; clear n0_ n1_ n2_ n3_ n4_ n5_ n6_ n7_; clear hb hbox hg; have hnb127 := NB328_303.out; have hnc127 := NB303_328.out; have hcz128_0 : w126.cell? ⟨gb328, 0, none⟩ = some (.int .i64 0) := (blk_cell BK328.out 0).trans rfl; have hcz128_1 : w126.cell? ⟨gb328, 1, none⟩ = some (.int .i64 0) := (blk_cell BK328.out 1).trans rfl; have hfz128_0 := blk_frozen BK328.out 0; have hfz128_1 := blk_frozen BK328.out 1))
     (try simp only [Act.put, List.setIfInBounds_toArray, List.set_cons_zero, List.set_cons_succ])
     go_cut [113] (fun v113 wc => ∃ (kq : Nat) (x113_123 : Bool), v113 = .bool x113_123 ∧ Aside0 (laws_FnStorms.j2 kq l0 x113_123 = some r) ∧ Aside0 (kq ≤ kj50) ∧ Aside0 (wc.heap[gb303]? = some (.cells #[.int .i64 t297, .int .i64 t298] 26 (0, 0))) ∧ Aside0 (wc.heap[gb328]? = some (.cells #[.int .i64 t323, .int .i64 t324] 26 (0, 0))) ∧ Aside0 (Below w.heap.size w wc))
     case first => as_aux_lemma =>
      have H := HC124.out
      clear HC124
      replace H := Option.bind_eq_some_iff.mp H
      obtain ⟨t329, A1290, H⟩ := H
      replace H : (if t329 = true then ((laws_longer.f t325 true).bind fun t330 => ((impl_Keeps.f kj50 t323 t324 t330).bind fun t333 => ((impl_MayStorm.f kj50 t323 t324 t325).bind fun t334 => (if (t333 != t334) = true then (laws_FnStorms.j2 kj50 l0 true) else ((laws_longer.f t325 false).bind fun t335 => ((impl_Keeps.f kj50 t323 t324 t335).bind fun t338 => (laws_FnStorms.j2 kj50 l0 (!t338)))))))) else (laws_FnStorms.j2 kj50 l0 false)) = some r := H
      have A129 := am_ A1290
      clear A1290
      by_cases c130 : t329 = true
      rotate_left
      ·replace c130 := Bool.eq_false_iff.mpr c130
       subst c130
       have H1 : (laws_FnStorms.j2 kj50 l0 false) = some r := by rw [if_neg (show ¬ (false = true) by decide)] at H; exact H
       clear H
       have H := H1
       clear H1
       have H' := am_ H
       clear H
       try go_wp2
       have n0_ : Aside0 (Kd.R Kd.bool 4 ((w126.setCell ⟨gb328, 0, none⟩ (.int .i64 t323)).setCell ⟨gb328, 1, none⟩ (.int .i64 t324)) w.heap.size (fun _ => True) v326 t325) := ⟨by (with_reducible repeat (first | apply r1_ | apply r2_ | apply r3_)); exact Kd.R_mono (Kd.R_far (p := ⟨gb328, 1, none⟩) (Kd.R_far (p := ⟨gb328, 0, none⟩) (Kd.R_types HO327.out BK328.out (by decide)) (fun _ hk => hk.2) (.int .i64 t323)) (fun _ hk => hk.2) (.int .i64 t324)) (fun _ hk => trivial)⟩
       have n1_ : Aside0 (((w126.setCell ⟨gb328, 0, none⟩ (.int .i64 t323)).setCell ⟨gb328, 1, none⟩ (.int .i64 t324)).heap[gb303]? = some (.cells #[.int .i64 t297, .int .i64 t298] 26 (0, 0))) := ⟨by (with_reducible repeat (first | refine k1_ ?_ _ | refine k2_ ?_ | refine k3_ ?_ _)); refine blk_far ?_ NB303_328.out _; (with_reducible repeat (first | refine k1_ ?_ _ | refine k2_ ?_ | refine k3_ ?_ _)); refine blk_far ?_ NB303_328.out _; (with_reducible repeat (first | refine k1_ ?_ _ | refine k2_ ?_ | refine k3_ ?_ _)); exact BK303.out⟩
       have n2_ : Aside0 (((w126.setCell ⟨gb328, 0, none⟩ (.int .i64 t323)).setCell ⟨gb328, 1, none⟩ (.int .i64 t324)).heap[gb328]? = some (.cells #[.int .i64 t323, .int .i64 t324] 26 (0, 0))) := ⟨by (with_reducible repeat (first | refine k1_ ?_ _ | refine k2_ ?_ | refine k3_ ?_ _)); refine blk_put (cs := #[.int .i64 t323, .int .i64 0]) ?_ 1 _ rfl; (with_reducible repeat (first | refine k1_ ?_ _ | refine k2_ ?_ | refine k3_ ?_ _)); refine blk_put (cs := #[.int .i64 0, .int .i64 0]) ?_ 0 _ rfl; (with_reducible repeat (first | refine k1_ ?_ _ | refine k2_ ?_ | refine k3_ ?_ _)); exact BK328.out⟩
       have n3_ : Aside0 (Below w.heap.size w ((w126.setCell ⟨gb328, 0, none⟩ (.int .i64 t323)).setCell ⟨gb328, 1, none⟩ (.int .i64 t324))) := ⟨by repeat (first | (with_reducible first | exact HB.out | apply b1_ | apply b2_ | apply b3_ | refine below_set ?_ GE303.out | refine below_set ?_ GE328.out) | exact HB.out)⟩
       (try clear HO327)
       (try clear BK303)
       (try clear BK328)
       (try clear HB)
       generalize ((w126.setCell ⟨gb328, 0, none⟩ (.int .i64 t323)).setCell ⟨gb328, 1, none⟩ (.int .i64 t324)) = w156 at n0_ n1_ n2_ n3_ ⊢
       have HO327 := n0_
       have BK303 := n1_
       have BK328 := n2_
       have HB := n3_
       clear n0_ n1_ n2_ n3_
       have n0_ := am_ (r3_ HO327.out)
       have n1_ := am_ (k2_ BK303.out)
       have n2_ := am_ (k2_ BK328.out)
       have n3_ := am_ (b3_ HB.out)
       replace HO327 := n0_
       replace BK303 := n1_
       replace BK328 := n2_
       replace HB := n3_
       clear n0_ n1_ n2_ n3_
       obtain ⟨Ao158, co158, eo158⟩ := Kd.R_slice HO327.out
       (first | subst eo158 | (injection eo158 with f1_ f2_ f3_; have f4_ := f1_.symm; have f5_ := f3_.symm; clear f1_ f2_ f3_; subst f4_; subst f5_))
       refine start_ (n := 20) (S := fun w' => w'.cell? ⟨gb328, 0, none⟩ = some (.int .i64 t323) ∧ w'.cell? ⟨gb328, 1, none⟩ = some (.int .i64 t324)) (ds := []) (bz 20 0) (by kernel_rfl) rfl rfl ⟨(blk_cell BK328.out 0).trans rfl, (blk_cell BK328.out 1).trans rfl⟩ (fun hHeld => ?_); refine with_tabW laws_FnStorms.tab12 laws_FnStorms.bits12 (fun HT_ HW_ => ?_)
       generalize w156.drew = w157 at HO327 BK303 BK328 HB hHeld ⊢
       refine pu_ 1 (some 95) ?_ (bz 20 2) rfl rfl (any_of HT_.out (by kernel_rfl)) (fun _ _ _ h => h) (Or.inl ⟨by rfl, ?_⟩) ?_ ?_ ?_; rotate_left; (intro w'; go_simp; with_reducible rfl); rotate_left; (simp only [Act.put, ls1, ls2, ls3, i64_w, i32_w]; rfl)
       refine take_ (i := 0) (N := some 94) (v := ?_) (a' := ?_) (bz 20 3) rfl rfl (take_ofW HT_.out HW_.out (by kernel_rfl)) (fun _ _ _ h => h) (Or.inl ⟨by rfl, ?_⟩) hHeld ?_ ?_; rotate_left; (rintro w' ⟨s0, s1⟩; go_simp; with_reducible rfl); rotate_left; (simp only [Act.put, ls1, ls2, ls3, i64_w, i32_w]; rfl)
       refine one_ (i := 2) (N := some 96) (bz 20 7) rfl rfl (one_of HT_.out (by kernel_rfl)) (by decide) (fun K hK => ?_)
       refine goes_ Try.func56 (by kernel_rfl) rfl #[.agg #[.int .i64 t323, .int .i64 t324], .slice Ao158 t325.length co158] (by rfl) rfl rfl (by (try simp only [mt_, mc_, mn_]); first | done | rfl | (simp only [ld_, lt_]; rfl)) ?_
       with_reducible refine (impl_Keeps.calls kj50 t323 t324 _ _ t325 false _ ?side1 ?side2 A129.out).mono ?_
       (case side1 => repeat (first | exact (Kd.R_reads' HO327.out).2.2 | (with_reducible first | refine c1_ ?_ _ | refine c2_ ?_ _ | refine c3_ ?_)))
       (case side2 => exact (Kd.R_reads' HO327.out).2.1)
       rintro e w159 ⟨rfl, hb⟩
       refine ⟨_, rfl, ?_⟩
       have n0_ := am_ (Kd.R_below (by (with_reducible repeat (first | apply r1_ | apply r2_ | apply r3_)); exact HO327.out) hb)
       have n1_ := am_ (blk_below (g := gb303) (o := .cells #[.int .i64 t297, .int .i64 t298] 26 (0, 0)) (by (with_reducible repeat (first | refine k1_ ?_ _ | refine k2_ ?_ | refine k3_ ?_ _)); exact BK303.out) hb)
       have n2_ := am_ (blk_below (g := gb328) (o := .cells #[.int .i64 t323, .int .i64 t324] 26 (0, 0)) (by (with_reducible repeat (first | refine k1_ ?_ _ | refine k2_ ?_ | refine k3_ ?_ _)); exact BK328.out) hb)
       have n3_ := am_ (below_step (by repeat (first | (with_reducible first | exact HB.out | apply b1_ | apply b2_ | apply b3_ | refine below_set ?_ GE303.out | refine below_set ?_ GE328.out) | exact HB.out)) hb)
       replace HO327 := n0_
       replace BK303 := n1_
       replace BK328 := n2_
       replace HB := n3_
       clear n0_ n1_ n2_ n3_
       (try clear hb)
       (try clear hb2)
       (try clear hk)
       (try clear hi)
       refine hK.out _ _ ⟨(blk_cell BK328.out 0).trans rfl, (blk_cell BK328.out 1).trans rfl⟩ (fun hHeld => ?_)
       clear hK K
       refine norm_ (a' := ?_) ?_ ?_
       rotate_left
       ·show Act.put _ (some 96) _ = _
        simp only [Act.put, ls1, ls2, ls3, i64_w, i32_w]
        rfl
       refine pu_ 3 (some 97) ?_ (bz 20 15) rfl rfl (any_of HT_.out (by kernel_rfl)) (fun _ _ _ h => h) (Or.inl ⟨by rfl, ?_⟩) ?_ ?_ ?_; rotate_left; (intro w'; go_simp; with_reducible rfl); rotate_left; (simp only [Act.put, ls1, ls2, ls3, i64_w, i32_w]; rfl)
       refine pu_ 4 (some 98) undef (bz 20 31) rfl rfl (any_of HT_.out (by kernel_rfl)) (fun _ _ _ h => h) (Or.inr ⟨by rfl, rfl⟩) ?_ ?_ ?_
       rotate_left
       ·simp only [Act.put, ls1, ls2, ls3, i64_w, i32_w]
        rfl
       refine pu_ 5 (some 99) undef (bz 20 63) rfl rfl (any_of HT_.out (by kernel_rfl)) (fun _ _ _ h => h) (Or.inr ⟨by rfl, rfl⟩) ?_ ?_ ?_
       rotate_left
       ·simp only [Act.put, ls1, ls2, ls3, i64_w, i32_w]
        rfl
       refine pu_ 6 (some 100) undef (bz 20 127) rfl rfl (any_of HT_.out (by kernel_rfl)) (fun _ _ _ h => h) (Or.inr ⟨by rfl, rfl⟩) ?_ ?_ ?_
       rotate_left
       ·simp only [Act.put, ls1, ls2, ls3, i64_w, i32_w]
        rfl
       refine pu_ 7 (some 101) undef (bz 20 255) rfl rfl (any_of HT_.out (by kernel_rfl)) (fun _ _ _ h => h) (Or.inr ⟨by rfl, rfl⟩) ?_ ?_ ?_
       rotate_left
       ·simp only [Act.put, ls1, ls2, ls3, i64_w, i32_w]
        rfl
       refine pu_ 8 (some 102) undef (bz 20 511) rfl rfl (any_of HT_.out (by kernel_rfl)) (fun _ _ _ h => h) (Or.inr ⟨by rfl, rfl⟩) ?_ ?_ ?_
       rotate_left
       ·simp only [Act.put, ls1, ls2, ls3, i64_w, i32_w]
        rfl
       refine pu_ 9 (some 103) undef (bz 20 1023) rfl rfl (any_of HT_.out (by kernel_rfl)) (fun _ _ _ h => h) (Or.inr ⟨by rfl, rfl⟩) ?_ ?_ ?_
       rotate_left
       ·simp only [Act.put, ls1, ls2, ls3, i64_w, i32_w]
        rfl
       refine pu_ 10 (some 104) undef (bz 20 2047) rfl rfl (any_of HT_.out (by kernel_rfl)) (fun _ _ _ h => h) (Or.inr ⟨by rfl, rfl⟩) ?_ ?_ ?_
       rotate_left
       ·simp only [Act.put, ls1, ls2, ls3, i64_w, i32_w]
        rfl
       refine pu_ 11 (some 105) undef (bz 20 4095) rfl rfl (any_of HT_.out (by kernel_rfl)) (fun _ _ _ h => h) (Or.inr ⟨by rfl, rfl⟩) ?_ ?_ ?_
       rotate_left
       ·simp only [Act.put, ls1, ls2, ls3, i64_w, i32_w]
        rfl
       refine pu_ 12 (some 106) undef (bz 20 8191) rfl rfl (any_of HT_.out (by kernel_rfl)) (fun _ _ _ h => h) (Or.inr ⟨by rfl, rfl⟩) ?_ ?_ ?_
       rotate_left
       ·simp only [Act.put, ls1, ls2, ls3, i64_w, i32_w]
        rfl
       refine pu_ 13 (some 107) undef (bz 20 16383) rfl rfl (any_of HT_.out (by kernel_rfl)) (fun _ _ _ h => h) (Or.inr ⟨by rfl, rfl⟩) ?_ ?_ ?_
       rotate_left
       ·simp only [Act.put, ls1, ls2, ls3, i64_w, i32_w]
        rfl
       refine pu_ 14 (some 108) undef (bz 20 32767) rfl rfl (any_of HT_.out (by kernel_rfl)) (fun _ _ _ h => h) (Or.inr ⟨by rfl, rfl⟩) ?_ ?_ ?_
       rotate_left
       ·simp only [Act.put, ls1, ls2, ls3, i64_w, i32_w]
        rfl
       refine pu_ 15 (some 109) undef (bz 20 65535) rfl rfl (any_of HT_.out (by kernel_rfl)) (fun _ _ _ h => h) (Or.inr ⟨by rfl, rfl⟩) ?_ ?_ ?_
       rotate_left
       ·simp only [Act.put, ls1, ls2, ls3, i64_w, i32_w]
        rfl
       refine pu_ 16 (some 110) undef (bz 20 131071) rfl rfl (any_of HT_.out (by kernel_rfl)) (fun _ _ _ h => h) (Or.inr ⟨by rfl, rfl⟩) ?_ ?_ ?_
       rotate_left
       ·simp only [Act.put, ls1, ls2, ls3, i64_w, i32_w]
        rfl
       refine pu_ 17 (some 111) undef (bz 20 262143) rfl rfl (any_of HT_.out (by kernel_rfl)) (fun _ _ _ h => h) (Or.inr ⟨by rfl, rfl⟩) ?_ ?_ ?_
       rotate_left
       ·simp only [Act.put, ls1, ls2, ls3, i64_w, i32_w]
        rfl
       refine pu_ 18 (some 112) undef (bz 20 524287) rfl rfl (any_of HT_.out (by kernel_rfl)) (fun _ _ _ h => h) (Or.inr ⟨by rfl, rfl⟩) ?_ ?_ ?_
       rotate_left
       ·simp only [Act.put, ls1, ls2, ls3, i64_w, i32_w]
        rfl
       refine pu_ 19 (some 113) ?_ (bz 20 1048575) rfl rfl (any_of HT_.out (by kernel_rfl)) (fun _ _ _ h => h) (Or.inl ⟨by rfl, ?_⟩) ?_ ?_ ?_; rotate_left; (intro w'; go_simp; with_reducible rfl); rotate_left; (simp only [Act.put, ls1, ls2, ls3, i64_w, i32_w]; rfl)
       refine done_ (done_of HT_.out (by kernel_rfl)) ?_
       try go_wp2
       go_meet
       case rel => exact ⟨_, (false), (by first | rfl | (simp; done) | (simp [*]; done)), H', ⟨by have := HJ5.out; have := HJ50.out; first | omega | exact Nat.le_refl _⟩, ⟨by (with_reducible repeat (first | refine k1_ ?_ _ | refine k2_ ?_ | refine k3_ ?_ _)); exact BK303.out⟩, ⟨by (with_reducible repeat (first | refine k1_ ?_ _ | refine k2_ ?_ | refine k3_ ?_ _)); exact BK328.out⟩, ⟨by repeat (first | (with_reducible first | exact HB.out | apply b1_ | apply b2_ | apply b3_ | refine below_set ?_ GE303.out | refine below_set ?_ GE328.out) | exact HB.out)⟩⟩
      subst c130
      have H1 : ((laws_longer.f t325 true).bind fun t330 => ((impl_Keeps.f kj50 t323 t324 t330).bind fun t333 => ((impl_MayStorm.f kj50 t323 t324 t325).bind fun t334 => (if (t333 != t334) = true then (laws_FnStorms.j2 kj50 l0 true) else ((laws_longer.f t325 false).bind fun t335 => ((impl_Keeps.f kj50 t323 t324 t335).bind fun t338 => (laws_FnStorms.j2 kj50 l0 (!t338)))))))) = some r := by rw [if_pos rfl] at H; exact H
      clear H
      have H := H1
      clear H1
      replace H := Option.bind_eq_some_iff.mp H
      obtain ⟨t330, A1310, H⟩ := H
      replace H : ((impl_Keeps.f kj50 t323 t324 t330).bind fun t333 => ((impl_MayStorm.f kj50 t323 t324 t325).bind fun t334 => (if (t333 != t334) = true then (laws_FnStorms.j2 kj50 l0 true) else ((laws_longer.f t325 false).bind fun t335 => ((impl_Keeps.f kj50 t323 t324 t335).bind fun t338 => (laws_FnStorms.j2 kj50 l0 (!t338))))))) = some r := H
      have A131 := am_ A1310
      clear A1310
      replace H := Option.bind_eq_some_iff.mp H
      obtain ⟨t333, A1320, H⟩ := H
      replace H : ((impl_MayStorm.f kj50 t323 t324 t325).bind fun t334 => (if (t333 != t334) = true then (laws_FnStorms.j2 kj50 l0 true) else ((laws_longer.f t325 false).bind fun t335 => ((impl_Keeps.f kj50 t323 t324 t335).bind fun t338 => (laws_FnStorms.j2 kj50 l0 (!t338)))))) = some r := H
      have A132 := am_ A1320
      clear A1320
      replace H := Option.bind_eq_some_iff.mp H
      obtain ⟨t334, A1330, H⟩ := H
      replace H : (if (t333 != t334) = true then (laws_FnStorms.j2 kj50 l0 true) else ((laws_longer.f t325 false).bind fun t335 => ((impl_Keeps.f kj50 t323 t324 t335).bind fun t338 => (laws_FnStorms.j2 kj50 l0 (!t338))))) = some r := H
      have A133 := am_ A1330
      clear A1330
      by_cases c134 : (t333 != t334) = true
      ·rw [if_pos c134] at H
       have c134b0 : (t333 != t334) = true := c134
       (try (have c134b1 : decide (t333 = t334) = false := by simpa using c134))
       (try (have c134b2 : (t333 == t334) = false := by simpa using c134))
       (try (have c134b3 : ¬ (t333 = t334) := by simpa using c134))
       clear c134
       (first | rw [c134b0] | (simp only [i64_w, i32_w]; rw [c134b0]) | skip)
       have H' := am_ H
       clear H
       try go_wp2
       have n0_ : Aside0 (Kd.R Kd.bool 4 ((w126.setCell ⟨gb328, 0, none⟩ (.int .i64 t323)).setCell ⟨gb328, 1, none⟩ (.int .i64 t324)) w.heap.size (fun _ => True) v326 t325) := ⟨by (with_reducible repeat (first | apply r1_ | apply r2_ | apply r3_)); exact Kd.R_mono (Kd.R_far (p := ⟨gb328, 1, none⟩) (Kd.R_far (p := ⟨gb328, 0, none⟩) (Kd.R_types HO327.out BK328.out (by decide)) (fun _ hk => hk.2) (.int .i64 t323)) (fun _ hk => hk.2) (.int .i64 t324)) (fun _ hk => trivial)⟩
       have n1_ : Aside0 (((w126.setCell ⟨gb328, 0, none⟩ (.int .i64 t323)).setCell ⟨gb328, 1, none⟩ (.int .i64 t324)).heap[gb303]? = some (.cells #[.int .i64 t297, .int .i64 t298] 26 (0, 0))) := ⟨by (with_reducible repeat (first | refine k1_ ?_ _ | refine k2_ ?_ | refine k3_ ?_ _)); refine blk_far ?_ NB303_328.out _; (with_reducible repeat (first | refine k1_ ?_ _ | refine k2_ ?_ | refine k3_ ?_ _)); refine blk_far ?_ NB303_328.out _; (with_reducible repeat (first | refine k1_ ?_ _ | refine k2_ ?_ | refine k3_ ?_ _)); exact BK303.out⟩
       have n2_ : Aside0 (((w126.setCell ⟨gb328, 0, none⟩ (.int .i64 t323)).setCell ⟨gb328, 1, none⟩ (.int .i64 t324)).heap[gb328]? = some (.cells #[.int .i64 t323, .int .i64 t324] 26 (0, 0))) := ⟨by (with_reducible repeat (first | refine k1_ ?_ _ | refine k2_ ?_ | refine k3_ ?_ _)); refine blk_put (cs := #[.int .i64 t323, .int .i64 0]) ?_ 1 _ rfl; (with_reducible repeat (first | refine k1_ ?_ _ | refine k2_ ?_ | refine k3_ ?_ _)); refine blk_put (cs := #[.int .i64 0, .int .i64 0]) ?_ 0 _ rfl; (with_reducible repeat (first | refine k1_ ?_ _ | refine k2_ ?_ | refine k3_ ?_ _)); exact BK328.out⟩
       have n3_ : Aside0 (Below w.heap.size w ((w126.setCell ⟨gb328, 0, none⟩ (.int .i64 t323)).setCell ⟨gb328, 1, none⟩ (.int .i64 t324))) := ⟨by repeat (first | (with_reducible first | exact HB.out | apply b1_ | apply b2_ | apply b3_ | refine below_set ?_ GE303.out | refine below_set ?_ GE328.out) | exact HB.out)⟩
       (try clear HO327)
       (try clear BK303)
       (try clear BK328)
       (try clear HB)
       generalize ((w126.setCell ⟨gb328, 0, none⟩ (.int .i64 t323)).setCell ⟨gb328, 1, none⟩ (.int .i64 t324)) = w135 at n0_ n1_ n2_ n3_ ⊢
       have HO327 := n0_
       have BK303 := n1_
       have BK328 := n2_
       have HB := n3_
       clear n0_ n1_ n2_ n3_
       have n0_ := am_ (r3_ HO327.out)
       have n1_ := am_ (k2_ BK303.out)
       have n2_ := am_ (k2_ BK328.out)
       have n3_ := am_ (b3_ HB.out)
       replace HO327 := n0_
       replace BK303 := n1_
       replace BK328 := n2_
       replace HB := n3_
       clear n0_ n1_ n2_ n3_
       obtain ⟨Ao137, co137, eo137⟩ := Kd.R_slice HO327.out
       (first | subst eo137 | (injection eo137 with f1_ f2_ f3_; have f4_ := f1_.symm; have f5_ := f3_.symm; clear f1_ f2_ f3_; subst f4_; subst f5_))
       refine start_ (n := 20) (S := fun w' => w'.cell? ⟨gb328, 0, none⟩ = some (.int .i64 t323) ∧ w'.cell? ⟨gb328, 1, none⟩ = some (.int .i64 t324)) (ds := []) (bz 20 0) (by kernel_rfl) rfl rfl ⟨(blk_cell BK328.out 0).trans rfl, (blk_cell BK328.out 1).trans rfl⟩ (fun hHeld => ?_); refine with_tabW laws_FnStorms.tab12 laws_FnStorms.bits12 (fun HT_ HW_ => ?_)
       generalize w135.drew = w136 at HO327 BK303 BK328 HB hHeld ⊢
       refine pu_ 1 (some 95) ?_ (bz 20 2) rfl rfl (any_of HT_.out (by kernel_rfl)) (fun _ _ _ h => h) (Or.inl ⟨by rfl, ?_⟩) ?_ ?_ ?_; rotate_left; (intro w'; go_simp; with_reducible rfl); rotate_left; (simp only [Act.put, ls1, ls2, ls3, i64_w, i32_w]; rfl)
       refine take_ (i := 0) (N := some 94) (v := ?_) (a' := ?_) (bz 20 3) rfl rfl (take_ofW HT_.out HW_.out (by kernel_rfl)) (fun _ _ _ h => h) (Or.inl ⟨by rfl, ?_⟩) hHeld ?_ ?_; rotate_left; (rintro w' ⟨s0, s1⟩; go_simp; with_reducible rfl); rotate_left; (simp only [Act.put, ls1, ls2, ls3, i64_w, i32_w]; rfl)
       refine one_ (i := 2) (N := some 96) (bz 20 7) rfl rfl (one_of HT_.out (by kernel_rfl)) (by decide) (fun K hK => ?_)
       refine goes_ Try.func56 (by kernel_rfl) rfl #[.agg #[.int .i64 t323, .int .i64 t324], .slice Ao137 t325.length co137] (by rfl) rfl rfl (by (try simp only [mt_, mc_, mn_]); first | done | rfl | (simp only [ld_, lt_]; rfl)) ?_
       with_reducible refine (impl_Keeps.calls kj50 t323 t324 _ _ t325 true _ ?side1 ?side2 A129.out).mono ?_
       (case side1 => repeat (first | exact (Kd.R_reads' HO327.out).2.2 | (with_reducible first | refine c1_ ?_ _ | refine c2_ ?_ _ | refine c3_ ?_)))
       (case side2 => exact (Kd.R_reads' HO327.out).2.1)
       rintro e w138 ⟨rfl, hb⟩
       refine ⟨_, rfl, ?_⟩
       have n0_ := am_ (Kd.R_below (by (with_reducible repeat (first | apply r1_ | apply r2_ | apply r3_)); exact HO327.out) hb)
       have n1_ := am_ (blk_below (g := gb303) (o := .cells #[.int .i64 t297, .int .i64 t298] 26 (0, 0)) (by (with_reducible repeat (first | refine k1_ ?_ _ | refine k2_ ?_ | refine k3_ ?_ _)); exact BK303.out) hb)
       have n2_ := am_ (blk_below (g := gb328) (o := .cells #[.int .i64 t323, .int .i64 t324] 26 (0, 0)) (by (with_reducible repeat (first | refine k1_ ?_ _ | refine k2_ ?_ | refine k3_ ?_ _)); exact BK328.out) hb)
       have n3_ := am_ (below_step (by repeat (first | (with_reducible first | exact HB.out | apply b1_ | apply b2_ | apply b3_ | refine below_set ?_ GE303.out | refine below_set ?_ GE328.out) | exact HB.out)) hb)
       replace HO327 := n0_
       replace BK303 := n1_
       replace BK328 := n2_
       replace HB := n3_
       clear n0_ n1_ n2_ n3_
       (try clear hb)
       (try clear hb2)
       (try clear hk)
       (try clear hi)
       refine hK.out _ _ ⟨(blk_cell BK328.out 0).trans rfl, (blk_cell BK328.out 1).trans rfl⟩ (fun hHeld => ?_)
       clear hK K
       refine norm_ (a' := ?_) ?_ ?_
       rotate_left
       ·show Act.put _ (some 96) _ = _
        simp only [Act.put, ls1, ls2, ls3, i64_w, i32_w]
        rfl
       refine pu_ 3 (some 97) ?_ (bz 20 15) rfl rfl (any_of HT_.out (by kernel_rfl)) (fun _ _ _ h => h) (Or.inl ⟨by rfl, ?_⟩) ?_ ?_ ?_; rotate_left; (intro w'; go_simp; with_reducible rfl); rotate_left; (simp only [Act.put, ls1, ls2, ls3, i64_w, i32_w]; rfl)
       refine pu_ 5 (some 99) ?_ (bz 20 47) rfl rfl (any_of HT_.out (by kernel_rfl)) (fun _ _ _ h => h) (Or.inl ⟨by rfl, ?_⟩) ?_ ?_ ?_; rotate_left; (intro w'; go_simp; with_reducible rfl); rotate_left; (simp only [Act.put, ls1, ls2, ls3, i64_w, i32_w]; rfl)
       refine pu_ 9 (some 103) ?_ (bz 20 559) rfl rfl (any_of HT_.out (by kernel_rfl)) (fun _ _ _ h => h) (Or.inl ⟨by rfl, ?_⟩) ?_ ?_ ?_; rotate_left; (intro w'; go_simp; with_reducible rfl); rotate_left; (simp only [Act.put, ls1, ls2, ls3, i64_w, i32_w]; rfl)
       refine take_ (i := 4) (N := some 98) (v := ?_) (a' := ?_) (bz 20 575) rfl rfl (take_ofW HT_.out HW_.out (by kernel_rfl)) (fun _ _ _ h => h) (Or.inl ⟨by rfl, ?_⟩) hHeld ?_ ?_; rotate_left; (rintro w' ⟨s0, s1⟩; go_simp; with_reducible rfl); rotate_left; (simp only [Act.put, ls1, ls2, ls3, i64_w, i32_w]; rfl)
       refine take_ (i := 8) (N := some 102) (v := ?_) (a' := ?_) (bz 20 831) rfl rfl (take_ofW HT_.out HW_.out (by kernel_rfl)) (fun _ _ _ h => h) (Or.inl ⟨by rfl, ?_⟩) hHeld ?_ ?_; rotate_left; (rintro w' ⟨s0, s1⟩; go_simp; with_reducible rfl); rotate_left; (simp only [Act.put, ls1, ls2, ls3, i64_w, i32_w]; rfl)
       refine one_ (i := 6) (N := some 100) (bz 20 895) rfl rfl (one_of HT_.out (by kernel_rfl)) (by decide) (fun K hK => ?_)
       refine goes_ Try.func52 (by kernel_rfl) rfl #[.slice Ao137 t325.length co137, .bool true] (by rfl) rfl rfl (by (try simp only [mt_, mc_, mn_]); first | done | rfl | (simp only [ld_, lt_]; rfl)) ?_
       with_reducible refine (laws_longer.calls _ _ t325 true t330 _ ?side1 ?side2 A131.out).mono ?_
       (case side1 => repeat (first | exact (Kd.R_reads' HO327.out).2.2 | (with_reducible first | refine c1_ ?_ _ | refine c2_ ?_ _ | refine c3_ ?_)))
       (case side2 => exact (Kd.R_reads' HO327.out).2.1)
       rintro e w139 ⟨v331, rfl, ho0, hb⟩
       refine ⟨_, rfl, ?_⟩
       have n0_ := am_ (Kd.R_elder' (by (with_reducible repeat (first | apply r1_ | apply r2_ | apply r3_)); exact HO327.out) (Kd.R_base ho0) hb)
       have n1_ := am_ (Kd.R_lower (Kd.R_new' ho0 (Kd.R_lt (by (with_reducible repeat (first | apply r1_ | apply r2_ | apply r3_)); exact HO327.out))) (below_size (by repeat (first | (with_reducible first | exact HB.out | apply b1_ | apply b2_ | apply b3_ | refine below_set ?_ GE303.out | refine below_set ?_ GE328.out) | exact HB.out))))
       have n2_ := am_ (blk_below (g := gb303) (o := .cells #[.int .i64 t297, .int .i64 t298] 26 (0, 0)) (by (with_reducible repeat (first | refine k1_ ?_ _ | refine k2_ ?_ | refine k3_ ?_ _)); exact BK303.out) hb)
       have n3_ := am_ (blk_below (g := gb328) (o := .cells #[.int .i64 t323, .int .i64 t324] 26 (0, 0)) (by (with_reducible repeat (first | refine k1_ ?_ _ | refine k2_ ?_ | refine k3_ ?_ _)); exact BK328.out) hb)
       have n4_ := am_ (below_step (by repeat (first | (with_reducible first | exact HB.out | apply b1_ | apply b2_ | apply b3_ | refine below_set ?_ GE303.out | refine below_set ?_ GE328.out) | exact HB.out)) hb)
       replace HO327 := n0_
       have HO332 := n1_
       replace BK303 := n2_
       replace BK328 := n3_
       replace HB := n4_
       clear n0_ n1_ n2_ n3_ n4_
       (try clear hb)
       (try clear hb2)
       (try clear hk)
       (try clear hi)
       (try clear ho0)
       obtain ⟨Ao140, co140, eo140⟩ := Kd.R_slice HO332.out
       (first | subst eo140 | (injection eo140 with f1_ f2_ f3_; have f4_ := f1_.symm; have f5_ := f3_.symm; clear f1_ f2_ f3_; subst f4_; subst f5_))
       refine hK.out _ _ ⟨(blk_cell BK328.out 0).trans rfl, (blk_cell BK328.out 1).trans rfl⟩ (fun hHeld => ?_)
       clear hK K
       refine norm_ (a' := ?_) ?_ ?_
       rotate_left
       ·show Act.put _ (some 100) _ = _
        simp only [Act.put, ls1, ls2, ls3, i64_w, i32_w]
        rfl
       refine one_ (i := 7) (N := some 101) (bz 20 1023) rfl rfl (one_of HT_.out (by kernel_rfl)) (by decide) (fun K hK => ?_)
       refine goes_ Try.func56 (by kernel_rfl) rfl #[.agg #[.int .i64 t323, .int .i64 t324], .slice Ao140 t330.length co140] (by rfl) rfl rfl (by (try simp only [mt_, mc_, mn_]); first | done | rfl | (simp only [ld_, lt_]; rfl)) ?_
       with_reducible refine (impl_Keeps.calls kj50 t323 t324 _ _ t330 t333 _ ?side1 ?side2 A132.out).mono ?_
       (case side1 => repeat (first | exact (Kd.R_reads' HO332.out).2.2 | (with_reducible first | refine c1_ ?_ _ | refine c2_ ?_ _ | refine c3_ ?_)))
       (case side2 => exact (Kd.R_reads' HO332.out).2.1)
       rintro e w141 ⟨rfl, hb⟩
       refine ⟨_, rfl, ?_⟩
       have n0_ := am_ (Kd.R_below (by (with_reducible repeat (first | apply r1_ | apply r2_ | apply r3_)); exact HO327.out) hb)
       have n1_ := am_ (Kd.R_below (by (with_reducible repeat (first | apply r1_ | apply r2_ | apply r3_)); exact HO332.out) hb)
       have n2_ := am_ (blk_below (g := gb303) (o := .cells #[.int .i64 t297, .int .i64 t298] 26 (0, 0)) (by (with_reducible repeat (first | refine k1_ ?_ _ | refine k2_ ?_ | refine k3_ ?_ _)); exact BK303.out) hb)
       have n3_ := am_ (blk_below (g := gb328) (o := .cells #[.int .i64 t323, .int .i64 t324] 26 (0, 0)) (by (with_reducible repeat (first | refine k1_ ?_ _ | refine k2_ ?_ | refine k3_ ?_ _)); exact BK328.out) hb)
       have n4_ := am_ (below_step (by repeat (first | (with_reducible first | exact HB.out | apply b1_ | apply b2_ | apply b3_ | refine below_set ?_ GE303.out | refine below_set ?_ GE328.out) | exact HB.out)) hb)
       replace HO327 := n0_
       replace HO332 := n1_
       replace BK303 := n2_
       replace BK328 := n3_
       replace HB := n4_
       clear n0_ n1_ n2_ n3_ n4_
       (try clear hb)
       (try clear hb2)
       (try clear hk)
       (try clear hi)
       refine hK.out _ _ ⟨(blk_cell BK328.out 0).trans rfl, (blk_cell BK328.out 1).trans rfl⟩ (fun hHeld => ?_)
       clear hK K
       refine norm_ (a' := ?_) ?_ ?_
       rotate_left
       ·show Act.put _ (some 101) _ = _
        simp only [Act.put, ls1, ls2, ls3, i64_w, i32_w]
        rfl
       refine one_ (i := 10) (N := some 104) (bz 20 2047) rfl rfl (one_of HT_.out (by kernel_rfl)) (by decide) (fun K hK => ?_)
       refine goes_ Try.func53 (by kernel_rfl) rfl #[.agg #[.int .i64 t323, .int .i64 t324], .slice Ao137 t325.length co137] (by rfl) rfl rfl (by (try simp only [mt_, mc_, mn_]); first | done | rfl | (simp only [ld_, lt_]; rfl)) ?_
       with_reducible refine (impl_MayStorm.calls kj50 t323 t324 _ _ t325 t334 _ ?side1 ?side2 A133.out).mono ?_
       (case side1 => repeat (first | exact (Kd.R_reads' HO327.out).2.2 | (with_reducible first | refine c1_ ?_ _ | refine c2_ ?_ _ | refine c3_ ?_)))
       (case side2 => exact (Kd.R_reads' HO327.out).2.1)
       rintro e w142 ⟨rfl, hb⟩
       refine ⟨_, rfl, ?_⟩
       have n0_ := am_ (Kd.R_below (by (with_reducible repeat (first | apply r1_ | apply r2_ | apply r3_)); exact HO327.out) hb)
       have n1_ := am_ (Kd.R_below (by (with_reducible repeat (first | apply r1_ | apply r2_ | apply r3_)); exact HO332.out) hb)
       have n2_ := am_ (blk_below (g := gb303) (o := .cells #[.int .i64 t297, .int .i64 t298] 26 (0, 0)) (by (with_reducible repeat (first | refine k1_ ?_ _ | refine k2_ ?_ | refine k3_ ?_ _)); exact BK303.out) hb)
       have n3_ := am_ (blk_below (g := gb328) (o := .cells #[.int .i64 t323, .int .i64 t324] 26 (0, 0)) (by (with_reducible repeat (first | refine k1_ ?_ _ | refine k2_ ?_ | refine k3_ ?_ _)); exact BK328.out) hb)
       have n4_ := am_ (below_step (by repeat (first | (with_reducible first | exact HB.out | apply b1_ | apply b2_ | apply b3_ | refine below_set ?_ GE303.out | refine below_set ?_ GE328.out) | exact HB.out)) hb)
       replace HO327 := n0_
       replace HO332 := n1_
       replace BK303 := n2_
       replace BK328 := n3_
       replace HB := n4_
       clear n0_ n1_ n2_ n3_ n4_
       (try clear hb)
       (try clear hb2)
       (try clear hk)
       (try clear hi)
       refine hK.out _ _ ⟨(blk_cell BK328.out 0).trans rfl, (blk_cell BK328.out 1).trans rfl⟩ (fun hHeld => ?_)
       clear hK K
       refine norm_ (a' := ?_) ?_ ?_
       rotate_left
       ·show Act.put _ (some 104) _ = _
        simp only [Act.put, ls1, ls2, ls3, i64_w, i32_w]
        rfl
       refine pu_ 11 (some 105) ?_ (bz 20 4095) rfl rfl (any_of HT_.out (by kernel_rfl)) (fun _ _ _ h => h) (Or.inl ⟨by rfl, ?_⟩) ?_ ?_ ?_; rotate_left; (intro w'; go_simp; with_reducible rfl); rotate_left; (simp only [Act.put, ls1, ls2, ls3, i64_w, i32_w]; rfl)
       refine pu_ 12 (some 106) ?_ (bz 20 8191) rfl rfl (any_of HT_.out (by kernel_rfl)) (fun _ _ _ h => h) (Or.inl ⟨by rfl, ?_⟩) ?_ ?_ ?_; rotate_left; (intro w'; go_simp; with_reducible rfl); rotate_left; (simp only [Act.put, ls1, ls2, ls3, i64_w, i32_w]; rfl)
       refine pu_ 13 (some 107) undef (bz 20 16383) rfl rfl (any_of HT_.out (by kernel_rfl)) (fun _ _ _ h => h) (Or.inr ⟨by rfl, rfl⟩) ?_ ?_ ?_
       rotate_left
       ·simp only [Act.put, ls1, ls2, ls3, i64_w, i32_w]
        rfl
       refine pu_ 14 (some 108) undef (bz 20 32767) rfl rfl (any_of HT_.out (by kernel_rfl)) (fun _ _ _ h => h) (Or.inr ⟨by rfl, rfl⟩) ?_ ?_ ?_
       rotate_left
       ·simp only [Act.put, ls1, ls2, ls3, i64_w, i32_w]
        rfl
       refine pu_ 15 (some 109) undef (bz 20 65535) rfl rfl (any_of HT_.out (by kernel_rfl)) (fun _ _ _ h => h) (Or.inr ⟨by rfl, rfl⟩) ?_ ?_ ?_
       rotate_left
       ·simp only [Act.put, ls1, ls2, ls3, i64_w, i32_w]
        rfl
       refine pu_ 16 (some 110) undef (bz 20 131071) rfl rfl (any_of HT_.out (by kernel_rfl)) (fun _ _ _ h => h) (Or.inr ⟨by rfl, rfl⟩) ?_ ?_ ?_
       rotate_left
       ·simp only [Act.put, ls1, ls2, ls3, i64_w, i32_w]
        rfl
       refine pu_ 17 (some 111) undef (bz 20 262143) rfl rfl (any_of HT_.out (by kernel_rfl)) (fun _ _ _ h => h) (Or.inr ⟨by rfl, rfl⟩) ?_ ?_ ?_
       rotate_left
       ·simp only [Act.put, ls1, ls2, ls3, i64_w, i32_w]
        rfl
       refine pu_ 18 (some 112) ?_ (bz 20 524287) rfl rfl (any_of HT_.out (by kernel_rfl)) (fun _ _ _ h => h) (Or.inl ⟨by rfl, ?_⟩) ?_ ?_ ?_; rotate_left; (intro w'; go_simp; with_reducible rfl); rotate_left; (simp only [Act.put, ls1, ls2, ls3, i64_w, i32_w]; rfl)
       refine pu_ 19 (some 113) ?_ (bz 20 1048575) rfl rfl (any_of HT_.out (by kernel_rfl)) (fun _ _ _ h => h) (Or.inl ⟨by rfl, ?_⟩) ?_ ?_ ?_; rotate_left; (intro w'; go_simp; with_reducible rfl); rotate_left; (simp only [Act.put, ls1, ls2, ls3, i64_w, i32_w]; rfl)
       refine done_ (done_of HT_.out (by kernel_rfl)) ?_
       try go_wp2
       go_meet
       case rel => exact ⟨_, (true), (by first | rfl | (simp; done) | (simp [*]; done)), H', ⟨by have := HJ5.out; have := HJ50.out; first | omega | exact Nat.le_refl _⟩, ⟨by (with_reducible repeat (first | refine k1_ ?_ _ | refine k2_ ?_ | refine k3_ ?_ _)); exact BK303.out⟩, ⟨by (with_reducible repeat (first | refine k1_ ?_ _ | refine k2_ ?_ | refine k3_ ?_ _)); exact BK328.out⟩, ⟨by repeat (first | (with_reducible first | exact HB.out | apply b1_ | apply b2_ | apply b3_ | refine below_set ?_ GE303.out | refine below_set ?_ GE328.out) | exact HB.out)⟩⟩
      rw [if_neg c134] at H
      have c134b0 : (t333 != t334) = false := by simpa using c134
      (try (have c134b1 : decide (t333 = t334) = true := by simpa using c134))
      (try (have c134b2 : (t333 == t334) = true := by simpa using c134))
      clear c134
      (first | rw [c134b0] | (simp only [i64_w, i32_w]; rw [c134b0]) | skip)
      replace H := Option.bind_eq_some_iff.mp H
      obtain ⟨t335, A1430, H⟩ := H
      replace H : ((impl_Keeps.f kj50 t323 t324 t335).bind fun t338 => (laws_FnStorms.j2 kj50 l0 (!t338))) = some r := H
      have A143 := am_ A1430
      clear A1430
      replace H := Option.bind_eq_some_iff.mp H
      obtain ⟨t338, A1440, H⟩ := H
      replace H : (laws_FnStorms.j2 kj50 l0 (!t338)) = some r := H
      have A144 := am_ A1440
      clear A1440
      have H' := am_ H
      clear H
      try go_wp2
      have n0_ : Aside0 (Kd.R Kd.bool 4 ((w126.setCell ⟨gb328, 0, none⟩ (.int .i64 t323)).setCell ⟨gb328, 1, none⟩ (.int .i64 t324)) w.heap.size (fun _ => True) v326 t325) := ⟨by (with_reducible repeat (first | apply r1_ | apply r2_ | apply r3_)); exact Kd.R_mono (Kd.R_far (p := ⟨gb328, 1, none⟩) (Kd.R_far (p := ⟨gb328, 0, none⟩) (Kd.R_types HO327.out BK328.out (by decide)) (fun _ hk => hk.2) (.int .i64 t323)) (fun _ hk => hk.2) (.int .i64 t324)) (fun _ hk => trivial)⟩
      have n1_ : Aside0 (((w126.setCell ⟨gb328, 0, none⟩ (.int .i64 t323)).setCell ⟨gb328, 1, none⟩ (.int .i64 t324)).heap[gb303]? = some (.cells #[.int .i64 t297, .int .i64 t298] 26 (0, 0))) := ⟨by (with_reducible repeat (first | refine k1_ ?_ _ | refine k2_ ?_ | refine k3_ ?_ _)); refine blk_far ?_ NB303_328.out _; (with_reducible repeat (first | refine k1_ ?_ _ | refine k2_ ?_ | refine k3_ ?_ _)); refine blk_far ?_ NB303_328.out _; (with_reducible repeat (first | refine k1_ ?_ _ | refine k2_ ?_ | refine k3_ ?_ _)); exact BK303.out⟩
      have n2_ : Aside0 (((w126.setCell ⟨gb328, 0, none⟩ (.int .i64 t323)).setCell ⟨gb328, 1, none⟩ (.int .i64 t324)).heap[gb328]? = some (.cells #[.int .i64 t323, .int .i64 t324] 26 (0, 0))) := ⟨by (with_reducible repeat (first | refine k1_ ?_ _ | refine k2_ ?_ | refine k3_ ?_ _)); refine blk_put (cs := #[.int .i64 t323, .int .i64 0]) ?_ 1 _ rfl; (with_reducible repeat (first | refine k1_ ?_ _ | refine k2_ ?_ | refine k3_ ?_ _)); refine blk_put (cs := #[.int .i64 0, .int .i64 0]) ?_ 0 _ rfl; (with_reducible repeat (first | refine k1_ ?_ _ | refine k2_ ?_ | refine k3_ ?_ _)); exact BK328.out⟩
      have n3_ : Aside0 (Below w.heap.size w ((w126.setCell ⟨gb328, 0, none⟩ (.int .i64 t323)).setCell ⟨gb328, 1, none⟩ (.int .i64 t324))) := ⟨by repeat (first | (with_reducible first | exact HB.out | apply b1_ | apply b2_ | apply b3_ | refine below_set ?_ GE303.out | refine below_set ?_ GE328.out) | exact HB.out)⟩
      (try clear HO327)
      (try clear BK303)
      (try clear BK328)
      (try clear HB)
      generalize ((w126.setCell ⟨gb328, 0, none⟩ (.int .i64 t323)).setCell ⟨gb328, 1, none⟩ (.int .i64 t324)) = w145 at n0_ n1_ n2_ n3_ ⊢
      have HO327 := n0_
      have BK303 := n1_
      have BK328 := n2_
      have HB := n3_
      clear n0_ n1_ n2_ n3_
      have n0_ := am_ (r3_ HO327.out)
      have n1_ := am_ (k2_ BK303.out)
      have n2_ := am_ (k2_ BK328.out)
      have n3_ := am_ (b3_ HB.out)
      replace HO327 := n0_
      replace BK303 := n1_
      replace BK328 := n2_
      replace HB := n3_
      clear n0_ n1_ n2_ n3_
      obtain ⟨Ao147, co147, eo147⟩ := Kd.R_slice HO327.out
      (first | subst eo147 | (injection eo147 with f1_ f2_ f3_; have f4_ := f1_.symm; have f5_ := f3_.symm; clear f1_ f2_ f3_; subst f4_; subst f5_))
      refine start_ (n := 20) (S := fun w' => w'.cell? ⟨gb328, 0, none⟩ = some (.int .i64 t323) ∧ w'.cell? ⟨gb328, 1, none⟩ = some (.int .i64 t324)) (ds := []) (bz 20 0) (by kernel_rfl) rfl rfl ⟨(blk_cell BK328.out 0).trans rfl, (blk_cell BK328.out 1).trans rfl⟩ (fun hHeld => ?_); refine with_tabW laws_FnStorms.tab12 laws_FnStorms.bits12 (fun HT_ HW_ => ?_)
      generalize w145.drew = w146 at HO327 BK303 BK328 HB hHeld ⊢
      refine pu_ 1 (some 95) ?_ (bz 20 2) rfl rfl (any_of HT_.out (by kernel_rfl)) (fun _ _ _ h => h) (Or.inl ⟨by rfl, ?_⟩) ?_ ?_ ?_; rotate_left; (intro w'; go_simp; with_reducible rfl); rotate_left; (simp only [Act.put, ls1, ls2, ls3, i64_w, i32_w]; rfl)
      refine take_ (i := 0) (N := some 94) (v := ?_) (a' := ?_) (bz 20 3) rfl rfl (take_ofW HT_.out HW_.out (by kernel_rfl)) (fun _ _ _ h => h) (Or.inl ⟨by rfl, ?_⟩) hHeld ?_ ?_; rotate_left; (rintro w' ⟨s0, s1⟩; go_simp; with_reducible rfl); rotate_left; (simp only [Act.put, ls1, ls2, ls3, i64_w, i32_w]; rfl)
      refine one_ (i := 2) (N := some 96) (bz 20 7) rfl rfl (one_of HT_.out (by kernel_rfl)) (by decide) (fun K hK => ?_)
      refine goes_ Try.func56 (by kernel_rfl) rfl #[.agg #[.int .i64 t323, .int .i64 t324], .slice Ao147 t325.length co147] (by rfl) rfl rfl (by (try simp only [mt_, mc_, mn_]); first | done | rfl | (simp only [ld_, lt_]; rfl)) ?_
      with_reducible refine (impl_Keeps.calls kj50 t323 t324 _ _ t325 true _ ?side1 ?side2 A129.out).mono ?_
      (case side1 => repeat (first | exact (Kd.R_reads' HO327.out).2.2 | (with_reducible first | refine c1_ ?_ _ | refine c2_ ?_ _ | refine c3_ ?_)))
      (case side2 => exact (Kd.R_reads' HO327.out).2.1)
      rintro e w148 ⟨rfl, hb⟩
      refine ⟨_, rfl, ?_⟩
      have n0_ := am_ (Kd.R_below (by (with_reducible repeat (first | apply r1_ | apply r2_ | apply r3_)); exact HO327.out) hb)
      have n1_ := am_ (blk_below (g := gb303) (o := .cells #[.int .i64 t297, .int .i64 t298] 26 (0, 0)) (by (with_reducible repeat (first | refine k1_ ?_ _ | refine k2_ ?_ | refine k3_ ?_ _)); exact BK303.out) hb)
      have n2_ := am_ (blk_below (g := gb328) (o := .cells #[.int .i64 t323, .int .i64 t324] 26 (0, 0)) (by (with_reducible repeat (first | refine k1_ ?_ _ | refine k2_ ?_ | refine k3_ ?_ _)); exact BK328.out) hb)
      have n3_ := am_ (below_step (by repeat (first | (with_reducible first | exact HB.out | apply b1_ | apply b2_ | apply b3_ | refine below_set ?_ GE303.out | refine below_set ?_ GE328.out) | exact HB.out)) hb)
      replace HO327 := n0_
      replace BK303 := n1_
      replace BK328 := n2_
      replace HB := n3_
      clear n0_ n1_ n2_ n3_
      (try clear hb)
      (try clear hb2)
      (try clear hk)
      (try clear hi)
      refine hK.out _ _ ⟨(blk_cell BK328.out 0).trans rfl, (blk_cell BK328.out 1).trans rfl⟩ (fun hHeld => ?_)
      clear hK K
      refine norm_ (a' := ?_) ?_ ?_
      rotate_left
      ·show Act.put _ (some 96) _ = _
       simp only [Act.put, ls1, ls2, ls3, i64_w, i32_w]
       rfl
      refine pu_ 3 (some 97) ?_ (bz 20 15) rfl rfl (any_of HT_.out (by kernel_rfl)) (fun _ _ _ h => h) (Or.inl ⟨by rfl, ?_⟩) ?_ ?_ ?_; rotate_left; (intro w'; go_simp; with_reducible rfl); rotate_left; (simp only [Act.put, ls1, ls2, ls3, i64_w, i32_w]; rfl)
      refine pu_ 5 (some 99) ?_ (bz 20 47) rfl rfl (any_of HT_.out (by kernel_rfl)) (fun _ _ _ h => h) (Or.inl ⟨by rfl, ?_⟩) ?_ ?_ ?_; rotate_left; (intro w'; go_simp; with_reducible rfl); rotate_left; (simp only [Act.put, ls1, ls2, ls3, i64_w, i32_w]; rfl)
      refine pu_ 9 (some 103) ?_ (bz 20 559) rfl rfl (any_of HT_.out (by kernel_rfl)) (fun _ _ _ h => h) (Or.inl ⟨by rfl, ?_⟩) ?_ ?_ ?_; rotate_left; (intro w'; go_simp; with_reducible rfl); rotate_left; (simp only [Act.put, ls1, ls2, ls3, i64_w, i32_w]; rfl)
      refine take_ (i := 4) (N := some 98) (v := ?_) (a' := ?_) (bz 20 575) rfl rfl (take_ofW HT_.out HW_.out (by kernel_rfl)) (fun _ _ _ h => h) (Or.inl ⟨by rfl, ?_⟩) hHeld ?_ ?_; rotate_left; (rintro w' ⟨s0, s1⟩; go_simp; with_reducible rfl); rotate_left; (simp only [Act.put, ls1, ls2, ls3, i64_w, i32_w]; rfl)
      refine take_ (i := 8) (N := some 102) (v := ?_) (a' := ?_) (bz 20 831) rfl rfl (take_ofW HT_.out HW_.out (by kernel_rfl)) (fun _ _ _ h => h) (Or.inl ⟨by rfl, ?_⟩) hHeld ?_ ?_; rotate_left; (rintro w' ⟨s0, s1⟩; go_simp; with_reducible rfl); rotate_left; (simp only [Act.put, ls1, ls2, ls3, i64_w, i32_w]; rfl)
      refine one_ (i := 6) (N := some 100) (bz 20 895) rfl rfl (one_of HT_.out (by kernel_rfl)) (by decide) (fun K hK => ?_)
      refine goes_ Try.func52 (by kernel_rfl) rfl #[.slice Ao147 t325.length co147, .bool true] (by rfl) rfl rfl (by (try simp only [mt_, mc_, mn_]); first | done | rfl | (simp only [ld_, lt_]; rfl)) ?_
      with_reducible refine (laws_longer.calls _ _ t325 true t330 _ ?side1 ?side2 A131.out).mono ?_
      (case side1 => repeat (first | exact (Kd.R_reads' HO327.out).2.2 | (with_reducible first | refine c1_ ?_ _ | refine c2_ ?_ _ | refine c3_ ?_)))
      (case side2 => exact (Kd.R_reads' HO327.out).2.1)
      rintro e w149 ⟨v331, rfl, ho0, hb⟩
      refine ⟨_, rfl, ?_⟩
      have n0_ := am_ (Kd.R_elder' (by (with_reducible repeat (first | apply r1_ | apply r2_ | apply r3_)); exact HO327.out) (Kd.R_base ho0) hb)
      have n1_ := am_ (Kd.R_lower (Kd.R_new' ho0 (Kd.R_lt (by (with_reducible repeat (first | apply r1_ | apply r2_ | apply r3_)); exact HO327.out))) (below_size (by repeat (first | (with_reducible first | exact HB.out | apply b1_ | apply b2_ | apply b3_ | refine below_set ?_ GE303.out | refine below_set ?_ GE328.out) | exact HB.out))))
      have n2_ := am_ (blk_below (g := gb303) (o := .cells #[.int .i64 t297, .int .i64 t298] 26 (0, 0)) (by (with_reducible repeat (first | refine k1_ ?_ _ | refine k2_ ?_ | refine k3_ ?_ _)); exact BK303.out) hb)
      have n3_ := am_ (blk_below (g := gb328) (o := .cells #[.int .i64 t323, .int .i64 t324] 26 (0, 0)) (by (with_reducible repeat (first | refine k1_ ?_ _ | refine k2_ ?_ | refine k3_ ?_ _)); exact BK328.out) hb)
      have n4_ := am_ (below_step (by repeat (first | (with_reducible first | exact HB.out | apply b1_ | apply b2_ | apply b3_ | refine below_set ?_ GE303.out | refine below_set ?_ GE328.out) | exact HB.out)) hb)
      replace HO327 := n0_
      have HO332 := n1_
      replace BK303 := n2_
      replace BK328 := n3_
      replace HB := n4_
      clear n0_ n1_ n2_ n3_ n4_
      (try clear hb)
      (try clear hb2)
      (try clear hk)
      (try clear hi)
      (try clear ho0)
      obtain ⟨Ao150, co150, eo150⟩ := Kd.R_slice HO332.out
      (first | subst eo150 | (injection eo150 with f1_ f2_ f3_; have f4_ := f1_.symm; have f5_ := f3_.symm; clear f1_ f2_ f3_; subst f4_; subst f5_))
      refine hK.out _ _ ⟨(blk_cell BK328.out 0).trans rfl, (blk_cell BK328.out 1).trans rfl⟩ (fun hHeld => ?_)
      clear hK K
      refine norm_ (a' := ?_) ?_ ?_
      rotate_left
      ·show Act.put _ (some 100) _ = _
       simp only [Act.put, ls1, ls2, ls3, i64_w, i32_w]
       rfl
      refine one_ (i := 7) (N := some 101) (bz 20 1023) rfl rfl (one_of HT_.out (by kernel_rfl)) (by decide) (fun K hK => ?_)
      refine goes_ Try.func56 (by kernel_rfl) rfl #[.agg #[.int .i64 t323, .int .i64 t324], .slice Ao150 t330.length co150] (by rfl) rfl rfl (by (try simp only [mt_, mc_, mn_]); first | done | rfl | (simp only [ld_, lt_]; rfl)) ?_
      with_reducible refine (impl_Keeps.calls kj50 t323 t324 _ _ t330 t333 _ ?side1 ?side2 A132.out).mono ?_
      (case side1 => repeat (first | exact (Kd.R_reads' HO332.out).2.2 | (with_reducible first | refine c1_ ?_ _ | refine c2_ ?_ _ | refine c3_ ?_)))
      (case side2 => exact (Kd.R_reads' HO332.out).2.1)
      rintro e w151 ⟨rfl, hb⟩
      refine ⟨_, rfl, ?_⟩
      have n0_ := am_ (Kd.R_below (by (with_reducible repeat (first | apply r1_ | apply r2_ | apply r3_)); exact HO327.out) hb)
      have n1_ := am_ (Kd.R_below (by (with_reducible repeat (first | apply r1_ | apply r2_ | apply r3_)); exact HO332.out) hb)
      have n2_ := am_ (blk_below (g := gb303) (o := .cells #[.int .i64 t297, .int .i64 t298] 26 (0, 0)) (by (with_reducible repeat (first | refine k1_ ?_ _ | refine k2_ ?_ | refine k3_ ?_ _)); exact BK303.out) hb)
      have n3_ := am_ (blk_below (g := gb328) (o := .cells #[.int .i64 t323, .int .i64 t324] 26 (0, 0)) (by (with_reducible repeat (first | refine k1_ ?_ _ | refine k2_ ?_ | refine k3_ ?_ _)); exact BK328.out) hb)
      have n4_ := am_ (below_step (by repeat (first | (with_reducible first | exact HB.out | apply b1_ | apply b2_ | apply b3_ | refine below_set ?_ GE303.out | refine below_set ?_ GE328.out) | exact HB.out)) hb)
      replace HO327 := n0_
      replace HO332 := n1_
      replace BK303 := n2_
      replace BK328 := n3_
      replace HB := n4_
      clear n0_ n1_ n2_ n3_ n4_
      (try clear hb)
      (try clear hb2)
      (try clear hk)
      (try clear hi)
      refine hK.out _ _ ⟨(blk_cell BK328.out 0).trans rfl, (blk_cell BK328.out 1).trans rfl⟩ (fun hHeld => ?_)
      clear hK K
      refine norm_ (a' := ?_) ?_ ?_
      rotate_left
      ·show Act.put _ (some 101) _ = _
       simp only [Act.put, ls1, ls2, ls3, i64_w, i32_w]
       rfl
      refine one_ (i := 10) (N := some 104) (bz 20 2047) rfl rfl (one_of HT_.out (by kernel_rfl)) (by decide) (fun K hK => ?_)
      refine goes_ Try.func53 (by kernel_rfl) rfl #[.agg #[.int .i64 t323, .int .i64 t324], .slice Ao147 t325.length co147] (by rfl) rfl rfl (by (try simp only [mt_, mc_, mn_]); first | done | rfl | (simp only [ld_, lt_]; rfl)) ?_
      with_reducible refine (impl_MayStorm.calls kj50 t323 t324 _ _ t325 t334 _ ?side1 ?side2 A133.out).mono ?_
      (case side1 => repeat (first | exact (Kd.R_reads' HO327.out).2.2 | (with_reducible first | refine c1_ ?_ _ | refine c2_ ?_ _ | refine c3_ ?_)))
      (case side2 => exact (Kd.R_reads' HO327.out).2.1)
      rintro e w152 ⟨rfl, hb⟩
      refine ⟨_, rfl, ?_⟩
      have n0_ := am_ (Kd.R_below (by (with_reducible repeat (first | apply r1_ | apply r2_ | apply r3_)); exact HO327.out) hb)
      have n1_ := am_ (Kd.R_below (by (with_reducible repeat (first | apply r1_ | apply r2_ | apply r3_)); exact HO332.out) hb)
      have n2_ := am_ (blk_below (g := gb303) (o := .cells #[.int .i64 t297, .int .i64 t298] 26 (0, 0)) (by (with_reducible repeat (first | refine k1_ ?_ _ | refine k2_ ?_ | refine k3_ ?_ _)); exact BK303.out) hb)
      have n3_ := am_ (blk_below (g := gb328) (o := .cells #[.int .i64 t323, .int .i64 t324] 26 (0, 0)) (by (with_reducible repeat (first | refine k1_ ?_ _ | refine k2_ ?_ | refine k3_ ?_ _)); exact BK328.out) hb)
      have n4_ := am_ (below_step (by repeat (first | (with_reducible first | exact HB.out | apply b1_ | apply b2_ | apply b3_ | refine below_set ?_ GE303.out | refine below_set ?_ GE328.out) | exact HB.out)) hb)
      replace HO327 := n0_
      replace HO332 := n1_
      replace BK303 := n2_
      replace BK328 := n3_
      replace HB := n4_
      clear n0_ n1_ n2_ n3_ n4_
      (try clear hb)
      (try clear hb2)
      (try clear hk)
      (try clear hi)
      refine hK.out _ _ ⟨(blk_cell BK328.out 0).trans rfl, (blk_cell BK328.out 1).trans rfl⟩ (fun hHeld => ?_)
      clear hK K
      refine norm_ (a' := ?_) ?_ ?_
      rotate_left
      ·show Act.put _ (some 104) _ = _
       simp only [Act.put, ls1, ls2, ls3, i64_w, i32_w]
       rfl
      refine pu_ 11 (some 105) ?_ (bz 20 4095) rfl rfl (any_of HT_.out (by kernel_rfl)) (fun _ _ _ h => h) (Or.inl ⟨by rfl, ?_⟩) ?_ ?_ ?_; rotate_left; (intro w'; go_simp; with_reducible rfl); rotate_left; (simp only [Act.put, ls1, ls2, ls3, i64_w, i32_w]; rfl)
      refine pu_ 12 (some 106) ?_ (bz 20 8191) rfl rfl (any_of HT_.out (by kernel_rfl)) (fun _ _ _ h => h) (Or.inl ⟨by rfl, ?_⟩) ?_ ?_ ?_; rotate_left; (intro w'; go_simp; with_reducible rfl); rotate_left; (simp only [Act.put, ls1, ls2, ls3, i64_w, i32_w]; rfl)
      refine pu_ 14 (some 108) ?_ (bz 20 24575) rfl rfl (any_of HT_.out (by kernel_rfl)) (fun _ _ _ h => h) (Or.inl ⟨by rfl, ?_⟩) ?_ ?_ ?_; rotate_left; (intro w'; go_simp; with_reducible rfl); rotate_left; (simp only [Act.put, ls1, ls2, ls3, i64_w, i32_w]; rfl)
      refine take_ (i := 13) (N := some 107) (v := ?_) (a' := ?_) (bz 20 32767) rfl rfl (take_ofW HT_.out HW_.out (by kernel_rfl)) (fun _ _ _ h => h) (Or.inl ⟨by rfl, ?_⟩) hHeld ?_ ?_; rotate_left; (rintro w' ⟨s0, s1⟩; go_simp; with_reducible rfl); rotate_left; (simp only [Act.put, ls1, ls2, ls3, i64_w, i32_w]; rfl)
      refine one_ (i := 15) (N := some 109) (bz 20 65535) rfl rfl (one_of HT_.out (by kernel_rfl)) (by decide) (fun K hK => ?_)
      refine goes_ Try.func52 (by kernel_rfl) rfl #[.slice Ao147 t325.length co147, .bool false] (by rfl) rfl rfl (by (try simp only [mt_, mc_, mn_]); first | done | rfl | (simp only [ld_, lt_]; rfl)) ?_
      with_reducible refine (laws_longer.calls _ _ t325 false t335 _ ?side1 ?side2 A143.out).mono ?_
      (case side1 => repeat (first | exact (Kd.R_reads' HO327.out).2.2 | (with_reducible first | refine c1_ ?_ _ | refine c2_ ?_ _ | refine c3_ ?_)))
      (case side2 => exact (Kd.R_reads' HO327.out).2.1)
      rintro e w153 ⟨v336, rfl, ho0, hb⟩
      refine ⟨_, rfl, ?_⟩
      have n0_ := am_ (Kd.R_elder' (by (with_reducible repeat (first | apply r1_ | apply r2_ | apply r3_)); exact HO327.out) (Kd.R_base ho0) hb)
      have n1_ := am_ (Kd.R_elder' (by (with_reducible repeat (first | apply r1_ | apply r2_ | apply r3_)); exact HO332.out) (Kd.R_base ho0) hb)
      have n2_ := am_ (Kd.R_lower (Kd.R_new' (Kd.R_new' ho0 (Kd.R_lt (by (with_reducible repeat (first | apply r1_ | apply r2_ | apply r3_)); exact HO327.out))) (Kd.R_lt (by (with_reducible repeat (first | apply r1_ | apply r2_ | apply r3_)); exact HO332.out))) (below_size (by repeat (first | (with_reducible first | exact HB.out | apply b1_ | apply b2_ | apply b3_ | refine below_set ?_ GE303.out | refine below_set ?_ GE328.out) | exact HB.out))))
      have n3_ := am_ (blk_below (g := gb303) (o := .cells #[.int .i64 t297, .int .i64 t298] 26 (0, 0)) (by (with_reducible repeat (first | refine k1_ ?_ _ | refine k2_ ?_ | refine k3_ ?_ _)); exact BK303.out) hb)
      have n4_ := am_ (blk_below (g := gb328) (o := .cells #[.int .i64 t323, .int .i64 t324] 26 (0, 0)) (by (with_reducible repeat (first | refine k1_ ?_ _ | refine k2_ ?_ | refine k3_ ?_ _)); exact BK328.out) hb)
      have n5_ := am_ (below_step (by repeat (first | (with_reducible first | exact HB.out | apply b1_ | apply b2_ | apply b3_ | refine below_set ?_ GE303.out | refine below_set ?_ GE328.out) | exact HB.out)) hb)
      replace HO327 := n0_
      replace HO332 := n1_
      have HO337 := n2_
      replace BK303 := n3_
      replace BK328 := n4_
      replace HB := n5_
      clear n0_ n1_ n2_ n3_ n4_ n5_
      (try clear hb)
      (try clear hb2)
      (try clear hk)
      (try clear hi)
      (try clear ho0)
      obtain ⟨Ao154, co154, eo154⟩ := Kd.R_slice HO337.out
      (first | subst eo154 | (injection eo154 with f1_ f2_ f3_; have f4_ := f1_.symm; have f5_ := f3_.symm; clear f1_ f2_ f3_; subst f4_; subst f5_))
      refine hK.out _ _ ⟨(blk_cell BK328.out 0).trans rfl, (blk_cell BK328.out 1).trans rfl⟩ (fun hHeld => ?_)
      clear hK K
      refine norm_ (a' := ?_) ?_ ?_
      rotate_left
      ·show Act.put _ (some 109) _ = _
       simp only [Act.put, ls1, ls2, ls3, i64_w, i32_w]
       rfl
      refine one_ (i := 16) (N := some 110) (bz 20 131071) rfl rfl (one_of HT_.out (by kernel_rfl)) (by decide) (fun K hK => ?_)
      refine goes_ Try.func56 (by kernel_rfl) rfl #[.agg #[.int .i64 t323, .int .i64 t324], .slice Ao154 t335.length co154] (by rfl) rfl rfl (by (try simp only [mt_, mc_, mn_]); first | done | rfl | (simp only [ld_, lt_]; rfl)) ?_
      with_reducible refine (impl_Keeps.calls kj50 t323 t324 _ _ t335 t338 _ ?side1 ?side2 A144.out).mono ?_
      (case side1 => repeat (first | exact (Kd.R_reads' HO337.out).2.2 | (with_reducible first | refine c1_ ?_ _ | refine c2_ ?_ _ | refine c3_ ?_)))
      (case side2 => exact (Kd.R_reads' HO337.out).2.1)
      rintro e w155 ⟨rfl, hb⟩
      refine ⟨_, rfl, ?_⟩
      have n0_ := am_ (Kd.R_below (by (with_reducible repeat (first | apply r1_ | apply r2_ | apply r3_)); exact HO327.out) hb)
      have n1_ := am_ (Kd.R_below (by (with_reducible repeat (first | apply r1_ | apply r2_ | apply r3_)); exact HO332.out) hb)
      have n2_ := am_ (Kd.R_below (by (with_reducible repeat (first | apply r1_ | apply r2_ | apply r3_)); exact HO337.out) hb)
      have n3_ := am_ (blk_below (g := gb303) (o := .cells #[.int .i64 t297, .int .i64 t298] 26 (0, 0)) (by (with_reducible repeat (first | refine k1_ ?_ _ | refine k2_ ?_ | refine k3_ ?_ _)); exact BK303.out) hb)
      have n4_ := am_ (blk_below (g := gb328) (o := .cells #[.int .i64 t323, .int .i64 t324] 26 (0, 0)) (by (with_reducible repeat (first | refine k1_ ?_ _ | refine k2_ ?_ | refine k3_ ?_ _)); exact BK328.out) hb)
      have n5_ := am_ (below_step (by repeat (first | (with_reducible first | exact HB.out | apply b1_ | apply b2_ | apply b3_ | refine below_set ?_ GE303.out | refine below_set ?_ GE328.out) | exact HB.out)) hb)
      replace HO327 := n0_
      replace HO332 := n1_
      replace HO337 := n2_
      replace BK303 := n3_
      replace BK328 := n4_
      replace HB := n5_
      clear n0_ n1_ n2_ n3_ n4_ n5_
      (try clear hb)
      (try clear hb2)
      (try clear hk)
      (try clear hi)
      refine hK.out _ _ ⟨(blk_cell BK328.out 0).trans rfl, (blk_cell BK328.out 1).trans rfl⟩ (fun hHeld => ?_)
      clear hK K
      refine norm_ (a' := ?_) ?_ ?_
      rotate_left
      ·show Act.put _ (some 110) _ = _
       simp only [Act.put, ls1, ls2, ls3, i64_w, i32_w]
       rfl
      refine pu_ 17 (some 111) ?_ (bz 20 262143) rfl rfl (any_of HT_.out (by kernel_rfl)) (fun _ _ _ h => h) (Or.inl ⟨by rfl, ?_⟩) ?_ ?_ ?_; rotate_left; (intro w'; go_simp; with_reducible rfl); rotate_left; (simp only [Act.put, ls1, ls2, ls3, i64_w, i32_w]; rfl)
      refine pu_ 18 (some 112) ?_ (bz 20 524287) rfl rfl (any_of HT_.out (by kernel_rfl)) (fun _ _ _ h => h) (Or.inl ⟨by rfl, ?_⟩) ?_ ?_ ?_; rotate_left; (intro w'; go_simp; with_reducible rfl); rotate_left; (simp only [Act.put, ls1, ls2, ls3, i64_w, i32_w]; rfl)
      refine pu_ 19 (some 113) ?_ (bz 20 1048575) rfl rfl (any_of HT_.out (by kernel_rfl)) (fun _ _ _ h => h) (Or.inl ⟨by rfl, ?_⟩) ?_ ?_ ?_; rotate_left; (intro w'; go_simp; with_reducible rfl); rotate_left; (simp only [Act.put, ls1, ls2, ls3, i64_w, i32_w]; rfl)
      refine done_ (done_of HT_.out (by kernel_rfl)) ?_
      try go_wp2
      go_meet
      case rel => exact ⟨_, (!t338), (by first | rfl | (simp; done) | (simp [*]; done)), H', ⟨by have := HJ5.out; have := HJ50.out; first | omega | exact Nat.le_refl _⟩, ⟨by (with_reducible repeat (first | refine k1_ ?_ _ | refine k2_ ?_ | refine k3_ ?_ _)); exact BK303.out⟩, ⟨by (with_reducible repeat (first | refine k1_ ?_ _ | refine k2_ ?_ | refine k3_ ?_ _)); exact BK328.out⟩, ⟨by repeat (first | (with_reducible first | exact HB.out | apply b1_ | apply b2_ | apply b3_ | refine below_set ?_ GE303.out | refine below_set ?_ GE328.out) | exact HB.out)⟩⟩
     case rest => as_aux_lemma =>
      clear HC124
      try clear c1
      try clear p2
      try clear c5
      try clear c13
      try clear c52
      try clear c53
      try clear c56
      try clear c130
      try clear c134
      try clear c134b0
      try clear c134b1
      try clear c134b2
      obtain ⟨kq, x113_123, rfl, HA, HJ123, BK303, BK328, HB⟩ := hcut
      cases kq with
      | zero => exact absurd HA.out (by simp [laws_FnStorms.j2])
      | succ kj123 =>
       have H := HA.out
       clear HA
       simp only [laws_FnStorms.j2] at H
       by_cases c160 : x113_123 = true
       ·subst c160
        have H1 : (some false) = some r := by rw [if_pos rfl] at H; exact H
        clear H
        have H := H1
        clear H1
        obtain rfl := Option.some.inj H
        go_wp2
        go_ret
        exact ⟨by first | rfl | (simp [errW_none, errW_some] <;> rfl) | (simp [*, errW_none, errW_some] <;> rfl), by repeat (first | (with_reducible first | exact HB.out | apply b1_ | apply b2_ | apply b3_ | refine below_set ?_ GE303.out | refine below_set ?_ GE328.out) | exact HB.out)⟩
       replace c160 := Bool.eq_false_iff.mpr c160
       subst c160
       have H1 : ((spec_DrawAddDay.f kj123 l0).bind fun bt339 => ((impl_AddDay.f bt339.1 bt339.2).bind fun t343 => (if (t343.length : Int) > 0 then (if (t343.length : Int) ≤ 10 then (if 0 ≤ (wrap64 ((t343.length : Int) - 1)) then (if (wrap64 ((t343.length : Int) - 1)) < (t343.length : Int) then (if ((rdOf false t343 (wrap64 ((t343.length : Int) - 1))) == bt339.2) = true then ((impl_CalmDays.f kj123 t343).bind fun t347 => (if (bt339.2 == (t347 == 0)) = true then ((impl_CountStorms.f kj123 t343).bind fun t348 => (some (decide (t348 ≤ (t343.length : Int))))) else (some false))) else (some false)) else (none)) else (none)) else (some false)) else (some false)))) = some r := by rw [if_neg (show ¬ (false = true) by decide)] at H; exact H
       clear H
       have H := H1
       clear H1
       replace H := Option.bind_eq_some_iff.mp H
       obtain ⟨⟨t339, t340⟩, A1610, H⟩ := H
       replace H : ((impl_AddDay.f t339 t340).bind fun t343 => (if (t343.length : Int) > 0 then (if (t343.length : Int) ≤ 10 then (if 0 ≤ (wrap64 ((t343.length : Int) - 1)) then (if (wrap64 ((t343.length : Int) - 1)) < (t343.length : Int) then (if ((rdOf false t343 (wrap64 ((t343.length : Int) - 1))) == t340) = true then ((impl_CalmDays.f kj123 t343).bind fun t347 => (if (t340 == (t347 == 0)) = true then ((impl_CountStorms.f kj123 t343).bind fun t348 => (some (decide (t348 ≤ (t343.length : Int))))) else (some false))) else (some false)) else (none)) else (none)) else (some false)) else (some false))) = some r := H
       have A161 := am_ A1610
       clear A1610
       replace H := Option.bind_eq_some_iff.mp H
       obtain ⟨t343, A1620, H⟩ := H
       replace H : (if (t343.length : Int) > 0 then (if (t343.length : Int) ≤ 10 then (if 0 ≤ (wrap64 ((t343.length : Int) - 1)) then (if (wrap64 ((t343.length : Int) - 1)) < (t343.length : Int) then (if ((rdOf false t343 (wrap64 ((t343.length : Int) - 1))) == t340) = true then ((impl_CalmDays.f kj123 t343).bind fun t347 => (if (t340 == (t347 == 0)) = true then ((impl_CountStorms.f kj123 t343).bind fun t348 => (some (decide (t348 ≤ (t343.length : Int))))) else (some false))) else (some false)) else (none)) else (none)) else (some false)) else (some false)) = some r := H
       have A162 := am_ A1620
       clear A1620
       by_cases c163 : (t343.length : Int) > 0
       rotate_left
       ·rw [if_neg c163] at H
        have c163b0 : decide (0 < (t343.length : Int)) = false := decide_eq_false c163
        have c163b1 : decide (0 < t343.length) = false := decide_eq_false (by omega)
        clear c163
        obtain rfl := Option.some.inj H
        go_wp2_with (first | ((with_reducible refine gate_callee (f := 57) rfl ?_); refine goesL_ (some 116) rfl rfl Try.func57 (by kernel_rfl) rfl #[.slice A0 l0.length c0] rfl (by (try simp only [mt_, mc_, mn_]); first | done | rfl | (simp only [ld_, lt_]; rfl)) ?_; (with_reducible refine (spec_DrawAddDay.calls kj123 _ _ l0 t339 t340 _ ?side1 ?side2 A161.out).mono ?_); (case side1 => repeat (first | exact (Kd.C_below HR0.out HB.out) | (with_reducible first | refine c1_ ?_ _ | refine c2_ ?_ _ | refine c3_ ?_))); (case side2 => exact HC0.out); rintro e w188 ⟨v341, rfl, ho0, hb⟩; refine ⟨_, rfl, ?_⟩; have n0_ := am_ (Kd.R_lower ho0 (below_size (by repeat (first | (with_reducible first | exact HB.out | apply b1_ | apply b2_ | apply b3_ | refine below_set ?_ GE303.out | refine below_set ?_ GE328.out) | exact HB.out)))); have n1_ := am_ (blk_below (g := gb303) (o := .cells #[.int .i64 t297, .int .i64 t298] 26 (0, 0)) (by (with_reducible repeat (first | refine k1_ ?_ _ | refine k2_ ?_ | refine k3_ ?_ _)); exact BK303.out) hb); have n2_ := am_ (blk_below (g := gb328) (o := .cells #[.int .i64 t323, .int .i64 t324] 26 (0, 0)) (by (with_reducible repeat (first | refine k1_ ?_ _ | refine k2_ ?_ | refine k3_ ?_ _)); exact BK328.out) hb); have n3_ := am_ (below_step (by repeat (first | (with_reducible first | exact HB.out | apply b1_ | apply b2_ | apply b3_ | refine below_set ?_ GE303.out | refine below_set ?_ GE328.out) | exact HB.out)) hb); have HO342 := n0_; replace BK303 := n1_; replace BK328 := n2_; replace HB := n3_; clear n0_ n1_ n2_ n3_; (try clear hb); (try clear hb2); (try clear hk); (try clear hi); (try clear ho0); obtain ⟨Ao189, co189, eo189⟩ := Kd.R_slice HO342.out; subst eo189) | ((with_reducible refine gate_callee (f := 54) rfl ?_); refine goesL_ (some 121) rfl rfl Try.func54 (by kernel_rfl) rfl #[.slice Ao189 t339.length co189, .bool t340] rfl (by (try simp only [mt_, mc_, mn_]); first | done | rfl | (simp only [ld_, lt_]; rfl)) ?_; (with_reducible refine (impl_AddDay.calls _ _ t339 t340 t343 _ ?side1 ?side2 A162.out).mono ?_); (case side1 => repeat (first | exact (Kd.R_reads' HO342.out).2.2 | (with_reducible first | refine c1_ ?_ _ | refine c2_ ?_ _ | refine c3_ ?_))); (case side2 => exact (Kd.R_reads' HO342.out).2.1); rintro e w190 ⟨v344, rfl, ho0, hb⟩; refine ⟨_, rfl, ?_⟩; have n0_ := am_ (Kd.R_elder' (by (with_reducible repeat (first | apply r1_ | apply r2_ | apply r3_)); exact HO342.out) (Kd.R_base ho0) hb); have n1_ := am_ (Kd.R_lower (Kd.R_new' ho0 (Kd.R_lt (by (with_reducible repeat (first | apply r1_ | apply r2_ | apply r3_)); exact HO342.out))) (below_size (by repeat (first | (with_reducible first | exact HB.out | apply b1_ | apply b2_ | apply b3_ | refine below_set ?_ GE303.out | refine below_set ?_ GE328.out) | exact HB.out)))); have n2_ := am_ (blk_below (g := gb303) (o := .cells #[.int .i64 t297, .int .i64 t298] 26 (0, 0)) (by (with_reducible repeat (first | refine k1_ ?_ _ | refine k2_ ?_ | refine k3_ ?_ _)); exact BK303.out) hb); have n3_ := am_ (blk_below (g := gb328) (o := .cells #[.int .i64 t323, .int .i64 t324] 26 (0, 0)) (by (with_reducible repeat (first | refine k1_ ?_ _ | refine k2_ ?_ | refine k3_ ?_ _)); exact BK328.out) hb); have n4_ := am_ (below_step (by repeat (first | (with_reducible first | exact HB.out | apply b1_ | apply b2_ | apply b3_ | refine below_set ?_ GE303.out | refine below_set ?_ GE328.out) | exact HB.out)) hb); replace HO342 := n0_; have HO345 := n1_; replace BK303 := n2_; replace BK328 := n3_; replace HB := n4_; clear n0_ n1_ n2_ n3_ n4_; (try clear hb); (try clear hb2); (try clear hk); (try clear hi); (try clear ho0); obtain ⟨Ao191, co191, eo191⟩ := Kd.R_slice HO345.out; subst eo191))
        go_ret
        exact ⟨by first | rfl | (simp [errW_none, errW_some] <;> rfl) | (simp [*, errW_none, errW_some] <;> rfl), by repeat (first | (with_reducible first | exact HB.out | apply b1_ | apply b2_ | apply b3_ | refine below_set ?_ GE303.out | refine below_set ?_ GE328.out) | exact HB.out)⟩
       rw [if_pos c163] at H
       have c163b0 : decide (0 < (t343.length : Int)) = true := decide_eq_true c163
       have c163b1 : decide (0 < t343.length) = true := decide_eq_true (by omega)
       clear c163
       by_cases c164 : (t343.length : Int) ≤ 10
       rotate_left
       ·rw [if_neg c164] at H
        have c164b0 : decide ((t343.length : Int) ≤ 10) = false := decide_eq_false c164
        have c164b1 : decide (t343.length ≤ 10) = false := decide_eq_false (by omega)
        clear c164
        obtain rfl := Option.some.inj H
        go_wp2_with (first | ((with_reducible refine gate_callee (f := 57) rfl ?_); refine goesL_ (some 116) rfl rfl Try.func57 (by kernel_rfl) rfl #[.slice A0 l0.length c0] rfl (by (try simp only [mt_, mc_, mn_]); first | done | rfl | (simp only [ld_, lt_]; rfl)) ?_; (with_reducible refine (spec_DrawAddDay.calls kj123 _ _ l0 t339 t340 _ ?side1 ?side2 A161.out).mono ?_); (case side1 => repeat (first | exact (Kd.C_below HR0.out HB.out) | (with_reducible first | refine c1_ ?_ _ | refine c2_ ?_ _ | refine c3_ ?_))); (case side2 => exact HC0.out); rintro e w184 ⟨v341, rfl, ho0, hb⟩; refine ⟨_, rfl, ?_⟩; have n0_ := am_ (Kd.R_lower ho0 (below_size (by repeat (first | (with_reducible first | exact HB.out | apply b1_ | apply b2_ | apply b3_ | refine below_set ?_ GE303.out | refine below_set ?_ GE328.out) | exact HB.out)))); have n1_ := am_ (blk_below (g := gb303) (o := .cells #[.int .i64 t297, .int .i64 t298] 26 (0, 0)) (by (with_reducible repeat (first | refine k1_ ?_ _ | refine k2_ ?_ | refine k3_ ?_ _)); exact BK303.out) hb); have n2_ := am_ (blk_below (g := gb328) (o := .cells #[.int .i64 t323, .int .i64 t324] 26 (0, 0)) (by (with_reducible repeat (first | refine k1_ ?_ _ | refine k2_ ?_ | refine k3_ ?_ _)); exact BK328.out) hb); have n3_ := am_ (below_step (by repeat (first | (with_reducible first | exact HB.out | apply b1_ | apply b2_ | apply b3_ | refine below_set ?_ GE303.out | refine below_set ?_ GE328.out) | exact HB.out)) hb); have HO342 := n0_; replace BK303 := n1_; replace BK328 := n2_; replace HB := n3_; clear n0_ n1_ n2_ n3_; (try clear hb); (try clear hb2); (try clear hk); (try clear hi); (try clear ho0); obtain ⟨Ao185, co185, eo185⟩ := Kd.R_slice HO342.out; subst eo185) | ((with_reducible refine gate_callee (f := 54) rfl ?_); refine goesL_ (some 121) rfl rfl Try.func54 (by kernel_rfl) rfl #[.slice Ao185 t339.length co185, .bool t340] rfl (by (try simp only [mt_, mc_, mn_]); first | done | rfl | (simp only [ld_, lt_]; rfl)) ?_; (with_reducible refine (impl_AddDay.calls _ _ t339 t340 t343 _ ?side1 ?side2 A162.out).mono ?_); (case side1 => repeat (first | exact (Kd.R_reads' HO342.out).2.2 | (with_reducible first | refine c1_ ?_ _ | refine c2_ ?_ _ | refine c3_ ?_))); (case side2 => exact (Kd.R_reads' HO342.out).2.1); rintro e w186 ⟨v344, rfl, ho0, hb⟩; refine ⟨_, rfl, ?_⟩; have n0_ := am_ (Kd.R_elder' (by (with_reducible repeat (first | apply r1_ | apply r2_ | apply r3_)); exact HO342.out) (Kd.R_base ho0) hb); have n1_ := am_ (Kd.R_lower (Kd.R_new' ho0 (Kd.R_lt (by (with_reducible repeat (first | apply r1_ | apply r2_ | apply r3_)); exact HO342.out))) (below_size (by repeat (first | (with_reducible first | exact HB.out | apply b1_ | apply b2_ | apply b3_ | refine below_set ?_ GE303.out | refine below_set ?_ GE328.out) | exact HB.out)))); have n2_ := am_ (blk_below (g := gb303) (o := .cells #[.int .i64 t297, .int .i64 t298] 26 (0, 0)) (by (with_reducible repeat (first | refine k1_ ?_ _ | refine k2_ ?_ | refine k3_ ?_ _)); exact BK303.out) hb); have n3_ := am_ (blk_below (g := gb328) (o := .cells #[.int .i64 t323, .int .i64 t324] 26 (0, 0)) (by (with_reducible repeat (first | refine k1_ ?_ _ | refine k2_ ?_ | refine k3_ ?_ _)); exact BK328.out) hb); have n4_ := am_ (below_step (by repeat (first | (with_reducible first | exact HB.out | apply b1_ | apply b2_ | apply b3_ | refine below_set ?_ GE303.out | refine below_set ?_ GE328.out) | exact HB.out)) hb); replace HO342 := n0_; have HO345 := n1_; replace BK303 := n2_; replace BK328 := n3_; replace HB := n4_; clear n0_ n1_ n2_ n3_ n4_; (try clear hb); (try clear hb2); (try clear hk); (try clear hi); (try clear ho0); obtain ⟨Ao187, co187, eo187⟩ := Kd.R_slice HO345.out; subst eo187))
        go_ret
        exact ⟨by first | rfl | (simp [errW_none, errW_some] <;> rfl) | (simp [*, errW_none, errW_some] <;> rfl), by repeat (first | (with_reducible first | exact HB.out | apply b1_ | apply b2_ | apply b3_ | refine below_set ?_ GE303.out | refine below_set ?_ GE328.out) | exact HB.out)⟩
       rw [if_pos c164] at H
       have c164b0 : decide ((t343.length : Int) ≤ 10) = true := decide_eq_true c164
       have c164b1 : decide (t343.length ≤ 10) = true := decide_eq_true (by omega)
       clear c164
       obtain ⟨ji165, hji165⟩ : ∃ j_ : Int, (wrap64 ((t343.length : Int) - 1)) = j_ := ⟨_, rfl⟩
       replace H : (if 0 ≤ (ji165) then (if (ji165) < (t343.length : Int) then (if ((rdOf false t343 (ji165)) == t340) = true then ((impl_CalmDays.f kj123 t343).bind fun t347 => (if (t340 == (t347 == 0)) = true then ((impl_CountStorms.f kj123 t343).bind fun t348 => (some (decide (t348 ≤ (t343.length : Int))))) else (some false))) else (some false)) else (none)) else (none)) = some r := by first | (rw [hji165] at H; exact H) | (simp only [hji165] at H ⊢; exact H)
       (try rw [hji165] at A161)
       (try rw [hji165] at A162)
       have hji165w : (IntKind.i64.wrap ((t343.length : Int) - 1)) = ji165 := (i64_w _).trans hji165
       by_cases c166 : 0 ≤ (ji165)
       rotate_left
       ·rw [if_neg c166] at H
        exact absurd H (by simp)
       rw [if_pos c166] at H
       have c166b0 : decide (0 ≤ (ji165)) = true := decide_eq_true c166
       clear c166
       by_cases c167 : (ji165) < (t343.length : Int)
       rotate_left
       ·rw [if_neg c167] at H
        exact absurd H (by simp)
       rw [if_pos c167] at H
       have c167b0 : decide ((ji165) < (t343.length : Int)) = true := decide_eq_true c167
       clear c167
       by_cases c168 : ((rdOf false t343 (ji165)) == t340) = true
       rotate_left
       ·rw [if_neg c168] at H
        have c168b0 : ((rdOf false t343 (ji165)) == t340) = false := by simpa using c168
        (try (have c168b1 : decide ((rdOf false t343 (ji165)) = t340) = false := by simpa using c168))
        (try (have c168b2 : ((rdOf false t343 (ji165)) == t340) = false := by simpa using c168))
        (try (have c168b3 : ¬ ((rdOf false t343 (ji165)) = t340) := by simpa using c168))
        clear c168
        obtain rfl := Option.some.inj H
        go_wp2_with (first | ((with_reducible refine gate_callee (f := 57) rfl ?_); refine goesL_ (some 116) rfl rfl Try.func57 (by kernel_rfl) rfl #[.slice A0 l0.length c0] rfl (by (try simp only [mt_, mc_, mn_]); first | done | rfl | (simp only [ld_, lt_]; rfl)) ?_; (with_reducible refine (spec_DrawAddDay.calls kj123 _ _ l0 t339 t340 _ ?side1 ?side2 A161.out).mono ?_); (case side1 => repeat (first | exact (Kd.C_below HR0.out HB.out) | (with_reducible first | refine c1_ ?_ _ | refine c2_ ?_ _ | refine c3_ ?_))); (case side2 => exact HC0.out); rintro e w180 ⟨v341, rfl, ho0, hb⟩; refine ⟨_, rfl, ?_⟩; have n0_ := am_ (Kd.R_lower ho0 (below_size (by repeat (first | (with_reducible first | exact HB.out | apply b1_ | apply b2_ | apply b3_ | refine below_set ?_ GE303.out | refine below_set ?_ GE328.out) | exact HB.out)))); have n1_ := am_ (blk_below (g := gb303) (o := .cells #[.int .i64 t297, .int .i64 t298] 26 (0, 0)) (by (with_reducible repeat (first | refine k1_ ?_ _ | refine k2_ ?_ | refine k3_ ?_ _)); exact BK303.out) hb); have n2_ := am_ (blk_below (g := gb328) (o := .cells #[.int .i64 t323, .int .i64 t324] 26 (0, 0)) (by (with_reducible repeat (first | refine k1_ ?_ _ | refine k2_ ?_ | refine k3_ ?_ _)); exact BK328.out) hb); have n3_ := am_ (below_step (by repeat (first | (with_reducible first | exact HB.out | apply b1_ | apply b2_ | apply b3_ | refine below_set ?_ GE303.out | refine below_set ?_ GE328.out) | exact HB.out)) hb); have HO342 := n0_; replace BK303 := n1_; replace BK328 := n2_; replace HB := n3_; clear n0_ n1_ n2_ n3_; (try clear hb); (try clear hb2); (try clear hk); (try clear hi); (try clear ho0); obtain ⟨Ao181, co181, eo181⟩ := Kd.R_slice HO342.out; subst eo181) | ((with_reducible refine gate_callee (f := 54) rfl ?_); refine goesL_ (some 121) rfl rfl Try.func54 (by kernel_rfl) rfl #[.slice Ao181 t339.length co181, .bool t340] rfl (by (try simp only [mt_, mc_, mn_]); first | done | rfl | (simp only [ld_, lt_]; rfl)) ?_; (with_reducible refine (impl_AddDay.calls _ _ t339 t340 t343 _ ?side1 ?side2 A162.out).mono ?_); (case side1 => repeat (first | exact (Kd.R_reads' HO342.out).2.2 | (with_reducible first | refine c1_ ?_ _ | refine c2_ ?_ _ | refine c3_ ?_))); (case side2 => exact (Kd.R_reads' HO342.out).2.1); rintro e w182 ⟨v344, rfl, ho0, hb⟩; refine ⟨_, rfl, ?_⟩; have n0_ := am_ (Kd.R_elder' (by (with_reducible repeat (first | apply r1_ | apply r2_ | apply r3_)); exact HO342.out) (Kd.R_base ho0) hb); have n1_ := am_ (Kd.R_lower (Kd.R_new' ho0 (Kd.R_lt (by (with_reducible repeat (first | apply r1_ | apply r2_ | apply r3_)); exact HO342.out))) (below_size (by repeat (first | (with_reducible first | exact HB.out | apply b1_ | apply b2_ | apply b3_ | refine below_set ?_ GE303.out | refine below_set ?_ GE328.out) | exact HB.out)))); have n2_ := am_ (blk_below (g := gb303) (o := .cells #[.int .i64 t297, .int .i64 t298] 26 (0, 0)) (by (with_reducible repeat (first | refine k1_ ?_ _ | refine k2_ ?_ | refine k3_ ?_ _)); exact BK303.out) hb); have n3_ := am_ (blk_below (g := gb328) (o := .cells #[.int .i64 t323, .int .i64 t324] 26 (0, 0)) (by (with_reducible repeat (first | refine k1_ ?_ _ | refine k2_ ?_ | refine k3_ ?_ _)); exact BK328.out) hb); have n4_ := am_ (below_step (by repeat (first | (with_reducible first | exact HB.out | apply b1_ | apply b2_ | apply b3_ | refine below_set ?_ GE303.out | refine below_set ?_ GE328.out) | exact HB.out)) hb); replace HO342 := n0_; have HO345 := n1_; replace BK303 := n2_; replace BK328 := n3_; replace HB := n4_; clear n0_ n1_ n2_ n3_ n4_; (try clear hb); (try clear hb2); (try clear hk); (try clear hi); (try clear ho0); obtain ⟨Ao183, co183, eo183⟩ := Kd.R_slice HO345.out; subst eo183; have p346 : 0 ≤ ((ji165) : Int) := of_decide_eq_true (by first | (with_reducible assumption) | assumption); have q346 : (ji165) < (t343.length : Int) := of_decide_eq_true (by first | (with_reducible assumption) | assumption); obtain ⟨ad346, e346, hx346_0⟩ := Kd.at_bool (Kd.R_reads' HO345.out).2.2 (ji165) p346 q346; cases e346; replace p346 := eq_true p346; replace q346 := eq_true q346))
        go_ret
        exact ⟨by first | rfl | (simp [errW_none, errW_some] <;> rfl) | (simp only [← hji165]; first | rfl | (simp [errW_none, errW_some] <;> rfl)) | (simp [*, errW_none, errW_some] <;> rfl), by repeat (first | (with_reducible first | exact HB.out | apply b1_ | apply b2_ | apply b3_ | refine below_set ?_ GE303.out | refine below_set ?_ GE328.out) | exact HB.out)⟩
       rw [if_pos c168] at H
       have c168b0 : ((rdOf false t343 (ji165)) == t340) = true := c168
       (try (have c168b1 : decide ((rdOf false t343 (ji165)) = t340) = true := by simpa using c168))
       (try (have c168b2 : ((rdOf false t343 (ji165)) == t340) = true := by simpa using c168))
       clear c168
       replace H := Option.bind_eq_some_iff.mp H
       obtain ⟨t347, A1690, H⟩ := H
       replace H : (if (t340 == (t347 == 0)) = true then ((impl_CountStorms.f kj123 t343).bind fun t348 => (some (decide (t348 ≤ (t343.length : Int))))) else (some false)) = some r := H
       have A169 := am_ A1690
       clear A1690
       by_cases c170 : (t340 == (t347 == 0)) = true
       rotate_left
       ·rw [if_neg c170] at H
        have c170b0 : (t340 == (t347 == 0)) = false := by simpa using c170
        (try (have c170b1 : decide (t340 = (t347 == 0)) = false := by simpa using c170))
        (try (have c170b2 : (t340 == (t347 == 0)) = false := by simpa using c170))
        (try (have c170b3 : ¬ (t340 = (t347 == 0)) := by simpa using c170))
        clear c170
        obtain rfl := Option.some.inj H
        go_wp2_with (first | ((with_reducible refine gate_callee (f := 57) rfl ?_); refine goesL_ (some 116) rfl rfl Try.func57 (by kernel_rfl) rfl #[.slice A0 l0.length c0] rfl (by (try simp only [mt_, mc_, mn_]); first | done | rfl | (simp only [ld_, lt_]; rfl)) ?_; (with_reducible refine (spec_DrawAddDay.calls kj123 _ _ l0 t339 t340 _ ?side1 ?side2 A161.out).mono ?_); (case side1 => repeat (first | exact (Kd.C_below HR0.out HB.out) | (with_reducible first | refine c1_ ?_ _ | refine c2_ ?_ _ | refine c3_ ?_))); (case side2 => exact HC0.out); rintro e w176 ⟨v341, rfl, ho0, hb⟩; refine ⟨_, rfl, ?_⟩; have n0_ := am_ (Kd.R_lower ho0 (below_size (by repeat (first | (with_reducible first | exact HB.out | apply b1_ | apply b2_ | apply b3_ | refine below_set ?_ GE303.out | refine below_set ?_ GE328.out) | exact HB.out)))); have n1_ := am_ (blk_below (g := gb303) (o := .cells #[.int .i64 t297, .int .i64 t298] 26 (0, 0)) (by (with_reducible repeat (first | refine k1_ ?_ _ | refine k2_ ?_ | refine k3_ ?_ _)); exact BK303.out) hb); have n2_ := am_ (blk_below (g := gb328) (o := .cells #[.int .i64 t323, .int .i64 t324] 26 (0, 0)) (by (with_reducible repeat (first | refine k1_ ?_ _ | refine k2_ ?_ | refine k3_ ?_ _)); exact BK328.out) hb); have n3_ := am_ (below_step (by repeat (first | (with_reducible first | exact HB.out | apply b1_ | apply b2_ | apply b3_ | refine below_set ?_ GE303.out | refine below_set ?_ GE328.out) | exact HB.out)) hb); have HO342 := n0_; replace BK303 := n1_; replace BK328 := n2_; replace HB := n3_; clear n0_ n1_ n2_ n3_; (try clear hb); (try clear hb2); (try clear hk); (try clear hi); (try clear ho0); obtain ⟨Ao177, co177, eo177⟩ := Kd.R_slice HO342.out; subst eo177) | ((with_reducible refine gate_callee (f := 54) rfl ?_); refine goesL_ (some 121) rfl rfl Try.func54 (by kernel_rfl) rfl #[.slice Ao177 t339.length co177, .bool t340] rfl (by (try simp only [mt_, mc_, mn_]); first | done | rfl | (simp only [ld_, lt_]; rfl)) ?_; (with_reducible refine (impl_AddDay.calls _ _ t339 t340 t343 _ ?side1 ?side2 A162.out).mono ?_); (case side1 => repeat (first | exact (Kd.R_reads' HO342.out).2.2 | (with_reducible first | refine c1_ ?_ _ | refine c2_ ?_ _ | refine c3_ ?_))); (case side2 => exact (Kd.R_reads' HO342.out).2.1); rintro e w178 ⟨v344, rfl, ho0, hb⟩; refine ⟨_, rfl, ?_⟩; have n0_ := am_ (Kd.R_elder' (by (with_reducible repeat (first | apply r1_ | apply r2_ | apply r3_)); exact HO342.out) (Kd.R_base ho0) hb); have n1_ := am_ (Kd.R_lower (Kd.R_new' ho0 (Kd.R_lt (by (with_reducible repeat (first | apply r1_ | apply r2_ | apply r3_)); exact HO342.out))) (below_size (by repeat (first | (with_reducible first | exact HB.out | apply b1_ | apply b2_ | apply b3_ | refine below_set ?_ GE303.out | refine below_set ?_ GE328.out) | exact HB.out)))); have n2_ := am_ (blk_below (g := gb303) (o := .cells #[.int .i64 t297, .int .i64 t298] 26 (0, 0)) (by (with_reducible repeat (first | refine k1_ ?_ _ | refine k2_ ?_ | refine k3_ ?_ _)); exact BK303.out) hb); have n3_ := am_ (blk_below (g := gb328) (o := .cells #[.int .i64 t323, .int .i64 t324] 26 (0, 0)) (by (with_reducible repeat (first | refine k1_ ?_ _ | refine k2_ ?_ | refine k3_ ?_ _)); exact BK328.out) hb); have n4_ := am_ (below_step (by repeat (first | (with_reducible first | exact HB.out | apply b1_ | apply b2_ | apply b3_ | refine below_set ?_ GE303.out | refine below_set ?_ GE328.out) | exact HB.out)) hb); replace HO342 := n0_; have HO345 := n1_; replace BK303 := n2_; replace BK328 := n3_; replace HB := n4_; clear n0_ n1_ n2_ n3_ n4_; (try clear hb); (try clear hb2); (try clear hk); (try clear hi); (try clear ho0); obtain ⟨Ao179, co179, eo179⟩ := Kd.R_slice HO345.out; subst eo179; have p346 : 0 ≤ ((ji165) : Int) := of_decide_eq_true (by first | (with_reducible assumption) | assumption); have q346 : (ji165) < (t343.length : Int) := of_decide_eq_true (by first | (with_reducible assumption) | assumption); obtain ⟨ad346, e346, hx346_0⟩ := Kd.at_bool (Kd.R_reads' HO345.out).2.2 (ji165) p346 q346; cases e346; replace p346 := eq_true p346; replace q346 := eq_true q346) | (go_at_call 58; (with_reducible refine (impl_CalmDays.calls kj123 _ _ t343 t347 _ ?side1 ?side2 A169.out).mono ?_); (case side1 => repeat (first | exact (Kd.R_reads' HO345.out).2.2 | (with_reducible first | refine c1_ ?_ _ | refine c2_ ?_ _ | refine c3_ ?_))); (case side2 => exact (Kd.R_reads' HO345.out).2.1); rintro e w' ⟨rfl, ⟨nd, rfl⟩⟩))
        go_ret
        exact ⟨by first | rfl | (simp [errW_none, errW_some] <;> rfl) | (simp only [← hji165]; first | rfl | (simp [errW_none, errW_some] <;> rfl)) | (simp [*, errW_none, errW_some] <;> rfl), by repeat (first | (with_reducible first | exact HB.out | apply b1_ | apply b2_ | apply b3_ | refine below_set ?_ GE303.out | refine below_set ?_ GE328.out) | exact HB.out)⟩
       rw [if_pos c170] at H
       have c170b0 : (t340 == (t347 == 0)) = true := c170
       (try (have c170b1 : decide (t340 = (t347 == 0)) = true := by simpa using c170))
       (try (have c170b2 : (t340 == (t347 == 0)) = true := by simpa using c170))
       clear c170
       replace H := Option.bind_eq_some_iff.mp H
       obtain ⟨t348, A1710, H⟩ := H
       replace H : (some (decide (t348 ≤ (t343.length : Int)))) = some r := H
       have A171 := am_ A1710
       clear A1710
       obtain rfl := Option.some.inj H
       go_wp2_with (first | ((with_reducible refine gate_callee (f := 57) rfl ?_); refine goesL_ (some 116) rfl rfl Try.func57 (by kernel_rfl) rfl #[.slice A0 l0.length c0] rfl (by (try simp only [mt_, mc_, mn_]); first | done | rfl | (simp only [ld_, lt_]; rfl)) ?_; (with_reducible refine (spec_DrawAddDay.calls kj123 _ _ l0 t339 t340 _ ?side1 ?side2 A161.out).mono ?_); (case side1 => repeat (first | exact (Kd.C_below HR0.out HB.out) | (with_reducible first | refine c1_ ?_ _ | refine c2_ ?_ _ | refine c3_ ?_))); (case side2 => exact HC0.out); rintro e w172 ⟨v341, rfl, ho0, hb⟩; refine ⟨_, rfl, ?_⟩; have n0_ := am_ (Kd.R_lower ho0 (below_size (by repeat (first | (with_reducible first | exact HB.out | apply b1_ | apply b2_ | apply b3_ | refine below_set ?_ GE303.out | refine below_set ?_ GE328.out) | exact HB.out)))); have n1_ := am_ (blk_below (g := gb303) (o := .cells #[.int .i64 t297, .int .i64 t298] 26 (0, 0)) (by (with_reducible repeat (first | refine k1_ ?_ _ | refine k2_ ?_ | refine k3_ ?_ _)); exact BK303.out) hb); have n2_ := am_ (blk_below (g := gb328) (o := .cells #[.int .i64 t323, .int .i64 t324] 26 (0, 0)) (by (with_reducible repeat (first | refine k1_ ?_ _ | refine k2_ ?_ | refine k3_ ?_ _)); exact BK328.out) hb); have n3_ := am_ (below_step (by repeat (first | (with_reducible first | exact HB.out | apply b1_ | apply b2_ | apply b3_ | refine below_set ?_ GE303.out | refine below_set ?_ GE328.out) | exact HB.out)) hb); have HO342 := n0_; replace BK303 := n1_; replace BK328 := n2_; replace HB := n3_; clear n0_ n1_ n2_ n3_; (try clear hb); (try clear hb2); (try clear hk); (try clear hi); (try clear ho0); obtain ⟨Ao173, co173, eo173⟩ := Kd.R_slice HO342.out; subst eo173) | ((with_reducible refine gate_callee (f := 54) rfl ?_); refine goesL_ (some 121) rfl rfl Try.func54 (by kernel_rfl) rfl #[.slice Ao173 t339.length co173, .bool t340] rfl (by (try simp only [mt_, mc_, mn_]); first | done | rfl | (simp only [ld_, lt_]; rfl)) ?_; (with_reducible refine (impl_AddDay.calls _ _ t339 t340 t343 _ ?side1 ?side2 A162.out).mono ?_); (case side1 => repeat (first | exact (Kd.R_reads' HO342.out).2.2 | (with_reducible first | refine c1_ ?_ _ | refine c2_ ?_ _ | refine c3_ ?_))); (case side2 => exact (Kd.R_reads' HO342.out).2.1); rintro e w174 ⟨v344, rfl, ho0, hb⟩; refine ⟨_, rfl, ?_⟩; have n0_ := am_ (Kd.R_elder' (by (with_reducible repeat (first | apply r1_ | apply r2_ | apply r3_)); exact HO342.out) (Kd.R_base ho0) hb); have n1_ := am_ (Kd.R_lower (Kd.R_new' ho0 (Kd.R_lt (by (with_reducible repeat (first | apply r1_ | apply r2_ | apply r3_)); exact HO342.out))) (below_size (by repeat (first | (with_reducible first | exact HB.out | apply b1_ | apply b2_ | apply b3_ | refine below_set ?_ GE303.out | refine below_set ?_ GE328.out) | exact HB.out)))); have n2_ := am_ (blk_below (g := gb303) (o := .cells #[.int .i64 t297, .int .i64 t298] 26 (0, 0)) (by (with_reducible repeat (first | refine k1_ ?_ _ | refine k2_ ?_ | refine k3_ ?_ _)); exact BK303.out) hb); have n3_ := am_ (blk_below (g := gb328) (o := .cells #[.int .i64 t323, .int .i64 t324] 26 (0, 0)) (by (with_reducible repeat (first | refine k1_ ?_ _ | refine k2_ ?_ | refine k3_ ?_ _)); exact BK328.out) hb); have n4_ := am_ (below_step (by repeat (first | (with_reducible first | exact HB.out | apply b1_ | apply b2_ | apply b3_ | refine below_set ?_ GE303.out | refine below_set ?_ GE328.out) | exact HB.out)) hb); replace HO342 := n0_; have HO345 := n1_; replace BK303 := n2_; replace BK328 := n3_; replace HB := n4_; clear n0_ n1_ n2_ n3_ n4_; (try clear hb); (try clear hb2); (try clear hk); (try clear hi); (try clear ho0); obtain ⟨Ao175, co175, eo175⟩ := Kd.R_slice HO345.out; subst eo175; have p346 : 0 ≤ ((ji165) : Int) := of_decide_eq_true (by first | (with_reducible assumption) | assumption); have q346 : (ji165) < (t343.length : Int) := of_decide_eq_true (by first | (with_reducible assumption) | assumption); obtain ⟨ad346, e346, hx346_0⟩ := Kd.at_bool (Kd.R_reads' HO345.out).2.2 (ji165) p346 q346; cases e346; replace p346 := eq_true p346; replace q346 := eq_true q346) | (go_at_call 58; (with_reducible refine (impl_CalmDays.calls kj123 _ _ t343 t347 _ ?side1 ?side2 A169.out).mono ?_); (case side1 => repeat (first | exact (Kd.R_reads' HO345.out).2.2 | (with_reducible first | refine c1_ ?_ _ | refine c2_ ?_ _ | refine c3_ ?_))); (case side2 => exact (Kd.R_reads' HO345.out).2.1); rintro e w' ⟨rfl, ⟨nd, rfl⟩⟩) | (go_at_call 59; (with_reducible refine (impl_CountStorms.calls kj123 _ _ t343 t348 _ ?side1 ?side2 A171.out).mono ?_); (case side1 => repeat (first | exact (Kd.R_reads' HO345.out).2.2 | (with_reducible first | refine c1_ ?_ _ | refine c2_ ?_ _ | refine c3_ ?_))); (case side2 => exact (Kd.R_reads' HO345.out).2.1); rintro e w' ⟨rfl, ⟨nd, rfl⟩⟩))
       go_ret
       exact ⟨by first | rfl | (simp [errW_none, errW_some] <;> rfl) | (simp only [← hji165]; first | rfl | (simp [errW_none, errW_some] <;> rfl)) | (simp [*, errW_none, errW_some] <;> rfl), by repeat (first | (with_reducible first | exact HB.out | apply b1_ | apply b2_ | apply b3_ | refine below_set ?_ GE303.out | refine below_set ?_ GE328.out) | exact HB.out)⟩

/-- THE ONE PURE STATEMENT of laws_FnStorms: yours. -/
def laws_FnStorms.Pure : Prop := ∀ (l0 : List Int), l0.length ≤ maxLen → l0.length * 1 ≤ 140737488351232 → (∀ x ∈ l0, (Lit.int .u8 x).wf = true) → ∃ k, laws_FnStorms.f k l0 = some true
theorem laws_FnStorms.walk (P : laws_FnStorms.Pure) (a0 : Option Addr) (len0 cap0 : Nat) (z0 : List Int) (w : World) (w0 : (a0 = none ∧ len0 = 0 ∧ cap0 = 0 ∧ z0 = []) ∨ ∃ x, a0 = some x ∧ len0 ≤ cap0 ∧ cap0 ≤ maxLen ∧ z0.length = cap0 ∧ (∀ i, i < z0.length → w.cell? (x.add i) = some (.int .u8 (z0.getD i 0))) ∧ ∀ n ∈ z0, (Lit.int .u8 n).wf = true) (y0 : len0 * 1 ≤ 140737488351232) :
  Calls Try.prog 9 #[.slice a0 len0 cap0] w fun e w' => e = .returned (.bool true) ∧ Below w.heap.size w w' := by
 obtain ⟨l0, rfl, hr0, hm0, hw0, hc0⟩ := ReadsInt.ofRowC w0
 obtain ⟨k, h⟩ := P l0 hm0 y0 hw0
 refine (laws_FnStorms.calls k _ _ l0 true w (Kd.C_of_reads (d := (0 : Int)) (h1 := fun _ => rfl) hr0) hc0 h).mono ?_
 rintro e w' ⟨rfl, hd⟩
 exact ⟨rfl, hd⟩

end Go.Proofs.Ytoafabcopihniaa.QFnStorms
