-- Laid by a program of this session, out of the translation; Lean checks it.
import Derived.Test.YtncenfihphdipaaQFnWaysx10
namespace Go.Proofs.Ytncenfihphdipaa.QFnWays
open Go.RowKit Go.Proofs.YtncenfihphdipaaW.PrintWords Go.Proofs.YtncenfihphdipaaW.PrintLast Go.Proofs.YtncenfihphdipaaW.PrintMore
attribute [local go_sem] max2_int min2_int max_two min_two max_three min_three max_four min_four   -- for this text's walks alone
set_option linter.unusedVariables false
set_option linter.unusedSimpArgs false

set_option maxHeartbeats 8000000 in
set_option maxRecDepth 100000 in
theorem laws_FnWays.calls (k : Nat) (A0 : Option Addr) (c0 : Nat) (l0 : List Int) (r : Bool) (w : World) (hr0 : Kd.C (Kd.int .u8) w A0 l0.length l0) (hc0 : l0.length ≤ c0) (h : laws_FnWays.f k l0 = some r) :
  Calls Try.prog 9 #[.slice A0 l0.length c0] w fun e w' => e = .returned (.bool r) ∧ Below w.heap.size w w' := by
 have hu37 := Try.underlying37
 have HR0 := am_ hr0
 have HC0 := am_ hc0
 clear hr0 hc0
 have HB := am_ (Below.refl w.heap.size w)
 have H : ((laws_big.f l0).bind fun t394 => (if t394 = true then (some true) else ((spec_DrawWayTo.f k l0).bind fun bt395 => ((impl_Days.f k bt395.1 bt395.2.1 bt395.2.2.1 bt395.2.2.2.1 bt395.2.2.2.2).bind fun t403 => ((impl_WayTo.f k bt395.1 bt395.2.1 bt395.2.2.1 bt395.2.2.2.1 bt395.2.2.2.2).bind fun t404 => ((impl_Days.f k bt395.1 bt395.2.1 bt395.2.2.1 bt395.2.2.2.2 bt395.2.2.2.1).bind fun t407 => (if t403 = t407 then (if ((decide (t403 ≥ 0)) != (decide ((t404.length : Int) > 0))) = true then (laws_FnWays.j0 k l0 bt395.2.2.2.1 bt395.2.2.2.2 t403 t404 true bt395.1 bt395.2.1 bt395.2.2.1) else (if t403 ≥ 0 then (if (t404.length : Int) = (wrap64 (t403 + 1)) then ((impl_IsWay.f k bt395.1 bt395.2.1 bt395.2.2.1 t404).bind fun t408 => (if t408 = true then (if 0 < (t404.length : Int) then (if (rd t404 0) = bt395.2.2.2.1 then (if 0 ≤ t403 then (if t403 < (t404.length : Int) then (if (rd t404 t403) = bt395.2.2.2.2 then ((impl_Apart.f k bt395.1 bt395.2.1 bt395.2.2.1 bt395.2.2.2.1 bt395.2.2.2.2).bind fun t411 => (laws_FnWays.j0 k l0 bt395.2.2.2.1 bt395.2.2.2.2 t403 t404 (decide (t403 < t411)) bt395.1 bt395.2.1 bt395.2.2.1)) else (laws_FnWays.j0 k l0 bt395.2.2.2.1 bt395.2.2.2.2 t403 t404 true bt395.1 bt395.2.1 bt395.2.2.1)) else (none)) else (none)) else (laws_FnWays.j0 k l0 bt395.2.2.2.1 bt395.2.2.2.2 t403 t404 true bt395.1 bt395.2.1 bt395.2.2.1)) else (none)) else (laws_FnWays.j0 k l0 bt395.2.2.2.1 bt395.2.2.2.2 t403 t404 true bt395.1 bt395.2.1 bt395.2.2.1))) else (laws_FnWays.j0 k l0 bt395.2.2.2.1 bt395.2.2.2.2 t403 t404 true bt395.1 bt395.2.1 bt395.2.2.1)) else (laws_FnWays.j0 k l0 bt395.2.2.2.1 bt395.2.2.2.2 t403 t404 false bt395.1 bt395.2.1 bt395.2.2.1))) else (laws_FnWays.j0 k l0 bt395.2.2.2.1 bt395.2.2.2.2 t403 t404 true bt395.1 bt395.2.1 bt395.2.2.1)))))))) = some r := h
 clear h
 replace H := Option.bind_eq_some_iff.mp H
 obtain ⟨t394, A20, H⟩ := H
 replace H : (if t394 = true then (some true) else ((spec_DrawWayTo.f k l0).bind fun bt395 => ((impl_Days.f k bt395.1 bt395.2.1 bt395.2.2.1 bt395.2.2.2.1 bt395.2.2.2.2).bind fun t403 => ((impl_WayTo.f k bt395.1 bt395.2.1 bt395.2.2.1 bt395.2.2.2.1 bt395.2.2.2.2).bind fun t404 => ((impl_Days.f k bt395.1 bt395.2.1 bt395.2.2.1 bt395.2.2.2.2 bt395.2.2.2.1).bind fun t407 => (if t403 = t407 then (if ((decide (t403 ≥ 0)) != (decide ((t404.length : Int) > 0))) = true then (laws_FnWays.j0 k l0 bt395.2.2.2.1 bt395.2.2.2.2 t403 t404 true bt395.1 bt395.2.1 bt395.2.2.1) else (if t403 ≥ 0 then (if (t404.length : Int) = (wrap64 (t403 + 1)) then ((impl_IsWay.f k bt395.1 bt395.2.1 bt395.2.2.1 t404).bind fun t408 => (if t408 = true then (if 0 < (t404.length : Int) then (if (rd t404 0) = bt395.2.2.2.1 then (if 0 ≤ t403 then (if t403 < (t404.length : Int) then (if (rd t404 t403) = bt395.2.2.2.2 then ((impl_Apart.f k bt395.1 bt395.2.1 bt395.2.2.1 bt395.2.2.2.1 bt395.2.2.2.2).bind fun t411 => (laws_FnWays.j0 k l0 bt395.2.2.2.1 bt395.2.2.2.2 t403 t404 (decide (t403 < t411)) bt395.1 bt395.2.1 bt395.2.2.1)) else (laws_FnWays.j0 k l0 bt395.2.2.2.1 bt395.2.2.2.2 t403 t404 true bt395.1 bt395.2.1 bt395.2.2.1)) else (none)) else (none)) else (laws_FnWays.j0 k l0 bt395.2.2.2.1 bt395.2.2.2.2 t403 t404 true bt395.1 bt395.2.1 bt395.2.2.1)) else (none)) else (laws_FnWays.j0 k l0 bt395.2.2.2.1 bt395.2.2.2.2 t403 t404 true bt395.1 bt395.2.1 bt395.2.2.1))) else (laws_FnWays.j0 k l0 bt395.2.2.2.1 bt395.2.2.2.2 t403 t404 true bt395.1 bt395.2.1 bt395.2.2.1)) else (laws_FnWays.j0 k l0 bt395.2.2.2.1 bt395.2.2.2.2 t403 t404 false bt395.1 bt395.2.1 bt395.2.2.1))) else (laws_FnWays.j0 k l0 bt395.2.2.2.1 bt395.2.2.2.2 t403 t404 true bt395.1 bt395.2.1 bt395.2.2.1))))))) = some r := H
 have A2 := am_ A20
 clear A20
 by_cases c3 : t394 = true
 ·subst c3
  have H1 : (some true) = some r := by rw [if_pos rfl] at H; exact H
  clear H
  have H := H1
  clear H1
  obtain rfl := Option.some.inj H
  go_enter Try.func9, Try.ntmps9
  go_wp2_with (first | ((with_reducible refine gate_callee (f := 26) rfl ?_); refine goesL_ (some 20) rfl rfl Try.func26 (by kernel_rfl) rfl #[.slice A0 l0.length c0] rfl (by (try simp only [mt_, mc_, mn_]); first | done | rfl | (simp only [ld_, lt_]; rfl)) ?_; (with_reducible refine (laws_big.calls _ _ l0 true _ ?side1 ?side2 A2.out).mono ?_); (case side1 => repeat (first | exact HR0.out | (with_reducible first | refine c1_ ?_ _ | refine c2_ ?_ _ | refine c3_ ?_))); (case side2 => exact HC0.out); rintro e w' ⟨rfl, ⟨nd, rfl⟩⟩; refine ⟨_, rfl, ?_⟩))
  go_ret
  exact ⟨by first | rfl | (simp [errW_none, errW_some] <;> rfl) | (simp [*, errW_none, errW_some] <;> rfl), by repeat (first | (with_reducible first | exact HB.out | apply b1_ | apply b2_ | apply b3_) | exact HB.out)⟩
 replace c3 := Bool.eq_false_iff.mpr c3
 subst c3
 have H1 : ((spec_DrawWayTo.f k l0).bind fun bt395 => ((impl_Days.f k bt395.1 bt395.2.1 bt395.2.2.1 bt395.2.2.2.1 bt395.2.2.2.2).bind fun t403 => ((impl_WayTo.f k bt395.1 bt395.2.1 bt395.2.2.1 bt395.2.2.2.1 bt395.2.2.2.2).bind fun t404 => ((impl_Days.f k bt395.1 bt395.2.1 bt395.2.2.1 bt395.2.2.2.2 bt395.2.2.2.1).bind fun t407 => (if t403 = t407 then (if ((decide (t403 ≥ 0)) != (decide ((t404.length : Int) > 0))) = true then (laws_FnWays.j0 k l0 bt395.2.2.2.1 bt395.2.2.2.2 t403 t404 true bt395.1 bt395.2.1 bt395.2.2.1) else (if t403 ≥ 0 then (if (t404.length : Int) = (wrap64 (t403 + 1)) then ((impl_IsWay.f k bt395.1 bt395.2.1 bt395.2.2.1 t404).bind fun t408 => (if t408 = true then (if 0 < (t404.length : Int) then (if (rd t404 0) = bt395.2.2.2.1 then (if 0 ≤ t403 then (if t403 < (t404.length : Int) then (if (rd t404 t403) = bt395.2.2.2.2 then ((impl_Apart.f k bt395.1 bt395.2.1 bt395.2.2.1 bt395.2.2.2.1 bt395.2.2.2.2).bind fun t411 => (laws_FnWays.j0 k l0 bt395.2.2.2.1 bt395.2.2.2.2 t403 t404 (decide (t403 < t411)) bt395.1 bt395.2.1 bt395.2.2.1)) else (laws_FnWays.j0 k l0 bt395.2.2.2.1 bt395.2.2.2.2 t403 t404 true bt395.1 bt395.2.1 bt395.2.2.1)) else (none)) else (none)) else (laws_FnWays.j0 k l0 bt395.2.2.2.1 bt395.2.2.2.2 t403 t404 true bt395.1 bt395.2.1 bt395.2.2.1)) else (none)) else (laws_FnWays.j0 k l0 bt395.2.2.2.1 bt395.2.2.2.2 t403 t404 true bt395.1 bt395.2.1 bt395.2.2.1))) else (laws_FnWays.j0 k l0 bt395.2.2.2.1 bt395.2.2.2.2 t403 t404 true bt395.1 bt395.2.1 bt395.2.2.1)) else (laws_FnWays.j0 k l0 bt395.2.2.2.1 bt395.2.2.2.2 t403 t404 false bt395.1 bt395.2.1 bt395.2.2.1))) else (laws_FnWays.j0 k l0 bt395.2.2.2.1 bt395.2.2.2.2 t403 t404 true bt395.1 bt395.2.1 bt395.2.2.1)))))) = some r := by rw [if_neg (show ¬ (false = true) by decide)] at H; exact H
 clear H
 have H := H1
 clear H1
 replace H := Option.bind_eq_some_iff.mp H
 obtain ⟨⟨t395, t396, t397, t400, t401⟩, A40, H⟩ := H
 replace H : ((impl_Days.f k t395 t396 t397 t400 t401).bind fun t403 => ((impl_WayTo.f k t395 t396 t397 t400 t401).bind fun t404 => ((impl_Days.f k t395 t396 t397 t401 t400).bind fun t407 => (if t403 = t407 then (if ((decide (t403 ≥ 0)) != (decide ((t404.length : Int) > 0))) = true then (laws_FnWays.j0 k l0 t400 t401 t403 t404 true t395 t396 t397) else (if t403 ≥ 0 then (if (t404.length : Int) = (wrap64 (t403 + 1)) then ((impl_IsWay.f k t395 t396 t397 t404).bind fun t408 => (if t408 = true then (if 0 < (t404.length : Int) then (if (rd t404 0) = t400 then (if 0 ≤ t403 then (if t403 < (t404.length : Int) then (if (rd t404 t403) = t401 then ((impl_Apart.f k t395 t396 t397 t400 t401).bind fun t411 => (laws_FnWays.j0 k l0 t400 t401 t403 t404 (decide (t403 < t411)) t395 t396 t397)) else (laws_FnWays.j0 k l0 t400 t401 t403 t404 true t395 t396 t397)) else (none)) else (none)) else (laws_FnWays.j0 k l0 t400 t401 t403 t404 true t395 t396 t397)) else (none)) else (laws_FnWays.j0 k l0 t400 t401 t403 t404 true t395 t396 t397))) else (laws_FnWays.j0 k l0 t400 t401 t403 t404 true t395 t396 t397)) else (laws_FnWays.j0 k l0 t400 t401 t403 t404 false t395 t396 t397))) else (laws_FnWays.j0 k l0 t400 t401 t403 t404 true t395 t396 t397))))) = some r := H
 have A4 := am_ A40
 clear A40
 replace H := Option.bind_eq_some_iff.mp H
 obtain ⟨t403, A50, H⟩ := H
 replace H : ((impl_WayTo.f k t395 t396 t397 t400 t401).bind fun t404 => ((impl_Days.f k t395 t396 t397 t401 t400).bind fun t407 => (if t403 = t407 then (if ((decide (t403 ≥ 0)) != (decide ((t404.length : Int) > 0))) = true then (laws_FnWays.j0 k l0 t400 t401 t403 t404 true t395 t396 t397) else (if t403 ≥ 0 then (if (t404.length : Int) = (wrap64 (t403 + 1)) then ((impl_IsWay.f k t395 t396 t397 t404).bind fun t408 => (if t408 = true then (if 0 < (t404.length : Int) then (if (rd t404 0) = t400 then (if 0 ≤ t403 then (if t403 < (t404.length : Int) then (if (rd t404 t403) = t401 then ((impl_Apart.f k t395 t396 t397 t400 t401).bind fun t411 => (laws_FnWays.j0 k l0 t400 t401 t403 t404 (decide (t403 < t411)) t395 t396 t397)) else (laws_FnWays.j0 k l0 t400 t401 t403 t404 true t395 t396 t397)) else (none)) else (none)) else (laws_FnWays.j0 k l0 t400 t401 t403 t404 true t395 t396 t397)) else (none)) else (laws_FnWays.j0 k l0 t400 t401 t403 t404 true t395 t396 t397))) else (laws_FnWays.j0 k l0 t400 t401 t403 t404 true t395 t396 t397)) else (laws_FnWays.j0 k l0 t400 t401 t403 t404 false t395 t396 t397))) else (laws_FnWays.j0 k l0 t400 t401 t403 t404 true t395 t396 t397)))) = some r := H
 have A5 := am_ A50
 clear A50
 replace H := Option.bind_eq_some_iff.mp H
 obtain ⟨t404, A60, H⟩ := H
 replace H : ((impl_Days.f k t395 t396 t397 t401 t400).bind fun t407 => (if t403 = t407 then (if ((decide (t403 ≥ 0)) != (decide ((t404.length : Int) > 0))) = true then (laws_FnWays.j0 k l0 t400 t401 t403 t404 true t395 t396 t397) else (if t403 ≥ 0 then (if (t404.length : Int) = (wrap64 (t403 + 1)) then ((impl_IsWay.f k t395 t396 t397 t404).bind fun t408 => (if t408 = true then (if 0 < (t404.length : Int) then (if (rd t404 0) = t400 then (if 0 ≤ t403 then (if t403 < (t404.length : Int) then (if (rd t404 t403) = t401 then ((impl_Apart.f k t395 t396 t397 t400 t401).bind fun t411 => (laws_FnWays.j0 k l0 t400 t401 t403 t404 (decide (t403 < t411)) t395 t396 t397)) else (laws_FnWays.j0 k l0 t400 t401 t403 t404 true t395 t396 t397)) else (none)) else (none)) else (laws_FnWays.j0 k l0 t400 t401 t403 t404 true t395 t396 t397)) else (none)) else (laws_FnWays.j0 k l0 t400 t401 t403 t404 true t395 t396 t397))) else (laws_FnWays.j0 k l0 t400 t401 t403 t404 true t395 t396 t397)) else (laws_FnWays.j0 k l0 t400 t401 t403 t404 false t395 t396 t397))) else (laws_FnWays.j0 k l0 t400 t401 t403 t404 true t395 t396 t397))) = some r := H
 have A6 := am_ A60
 clear A60
 have HC7 := am_ H
 clear H
 go_enter Try.func9, Try.ntmps9
 go_upto_region 6 with (first | ((with_reducible refine gate_callee (f := 26) rfl ?_); refine goesL_ (some 20) rfl rfl Try.func26 (by kernel_rfl) rfl #[.slice A0 l0.length c0] rfl (by (try simp only [mt_, mc_, mn_]); first | done | rfl | (simp only [ld_, lt_]; rfl)) ?_; (with_reducible refine (laws_big.calls _ _ l0 false _ ?side1 ?side2 A2.out).mono ?_); (case side1 => repeat (first | exact HR0.out | (with_reducible first | refine c1_ ?_ _ | refine c2_ ?_ _ | refine c3_ ?_))); (case side2 => exact HC0.out); rintro e w' ⟨rfl, ⟨nd, rfl⟩⟩; refine ⟨_, rfl, ?_⟩) | ((with_reducible refine gate_callee (f := 27) rfl ?_); refine goesL_ (some 23) rfl rfl Try.func27 (by kernel_rfl) rfl #[.slice A0 l0.length c0] rfl (by (try simp only [mt_, mc_, mn_]); first | done | rfl | (simp only [ld_, lt_]; rfl)) ?_; (with_reducible refine (spec_DrawWayTo.calls k _ _ l0 t395 t396 t397 t400 t401 _ ?side1 ?side2 A4.out).mono ?_); (case side1 => repeat (first | exact HR0.out | (with_reducible first | refine c1_ ?_ _ | refine c2_ ?_ _ | refine c3_ ?_))); (case side2 => exact HC0.out); rintro e w8 ⟨v398, rfl, ho0, hb⟩; refine ⟨_, rfl, ?_⟩; have n0_ := am_ (Kd.Q_lower ho0 (below_size (by repeat (first | (with_reducible first | exact HB.out | apply b1_ | apply b2_ | apply b3_) | exact HB.out)))); have n1_ := am_ (below_step (by repeat (first | (with_reducible first | exact HB.out | apply b1_ | apply b2_ | apply b3_) | exact HB.out)) hb); have HO399 := n0_; replace HB := n1_; clear n0_ n1_; (try clear hb); (try clear hb2); (try clear hk); (try clear hi); (try clear ho0)) | ((with_reducible refine gate_dst (N := 3) rfl ?_); (try (refine gate_guard (by rfl) ?_; dsimp only)); refine box_event ?hg (N := 3) ?hd (cs := #[.int .i64 0, .int .i64 0, .slice none 0 0]) (t := 37) ?hr ?_; (case hd => rfl); (case hg => rfl); (case hr => first | (go_simp; done) | (go_simp; rfl)); intro gb402 hg w9 hbox hb; have n0_ := am_ (Kd.Q_below (by (with_reducible repeat (first | apply q1_ | apply q2_ | apply q3_)); exact HO399.out) hb); have n1_ := am_ (below_step (by repeat (first | (with_reducible first | exact HB.out | apply b1_ | apply b2_ | apply b3_) | exact HB.out)) hb); have n2_ := am_ (hbox); have n3_ := am_ ((by rw [hg]; exact (below_size (by repeat (first | (with_reducible first | exact HB.out | apply b1_ | apply b2_ | apply b3_) | exact HB.out))) : w.heap.size ≤ gb402)); have n4_ := am_ ((by rw [hg]; exact (below_size (by repeat (first | (with_reducible first | exact HB.out | apply b1_ | apply b2_ | apply b3_) | exact HB.out))) : w.heap.size ≤ gb402)); replace HO399 := n0_; replace HB := n1_; have BK402 := n2_; have GW402 := n3_; have GE402 := n4_; clear n0_ n1_ n2_ n3_ n4_; clear hb hbox hg; have hcz10_0 : w9.cell? ⟨gb402, 0, none⟩ = some (.int .i64 0) := (blk_cell BK402.out 0).trans rfl; have hcz10_1 : w9.cell? ⟨gb402, 1, none⟩ = some (.int .i64 0) := (blk_cell BK402.out 1).trans rfl; have hcz10_2 : w9.cell? ⟨gb402, 2, none⟩ = some (.slice none 0 0) := (blk_cell BK402.out 2).trans rfl; have hfz10_0 := blk_frozen BK402.out 0; have hfz10_1 := blk_frozen BK402.out 1; have hfz10_2 := blk_frozen BK402.out 2; obtain ⟨Ao11, co11, eo11, _⟩ := Kd.Q_slice HO399.out; subst eo11) | ((with_reducible refine gate_callee (f := 28) rfl ?_); refine goesL_ (some 30) rfl rfl Try.func28 (by kernel_rfl) rfl #[.agg #[.int .i64 t395, .int .i64 t396, .slice Ao11 t397.length co11], .int .i64 t400, .int .i64 t401] rfl (by (try simp only [mt_, mc_, mn_]); first | done | rfl | (simp only [ld_, lt_]; rfl)) ?_; (with_reducible refine (impl_Days.calls k t395 t396 _ _ t397 t400 t401 t403 _ ?side1 ?side2 A5.out).mono ?_); (case side1 => refine (Kd.Q_reads' (e := 3) (base := w.heap.size) (ok := fun k_ => True) (n := t397.length) (c := co11) ?_).2.2; exact (by (with_reducible repeat (first | apply q1_ | apply q2_ | apply q3_)); exact (Kd.Q_mono (Kd.Q_far (p := ⟨gb402, 2, none⟩) (Kd.Q_far (p := ⟨gb402, 1, none⟩) (Kd.Q_far (p := ⟨gb402, 0, none⟩) (Kd.Q_types HO399.out BK402.out (by decide)) (fun _ hk => hk.2) (.int .i64 t395)) (fun _ hk => hk.2) (.int .i64 t396)) (fun _ hk => hk.2) (.slice Ao11 t397.length co11)) (fun _ h_ => h_.1)))); (case side2 => exact (Kd.Q_reads' HO399.out).2.1); rintro e w12 ⟨rfl, hb⟩; refine ⟨_, rfl, ?_⟩; have n0_ := am_ (Kd.Q_below (by (with_reducible repeat (first | apply q1_ | apply q2_ | apply q3_)); exact (Kd.Q_mono (Kd.Q_far (p := ⟨gb402, 2, none⟩) (Kd.Q_far (p := ⟨gb402, 1, none⟩) (Kd.Q_far (p := ⟨gb402, 0, none⟩) (Kd.Q_types HO399.out BK402.out (by decide)) (fun _ hk => hk.2) (.int .i64 t395)) (fun _ hk => hk.2) (.int .i64 t396)) (fun _ hk => hk.2) (.slice Ao11 t397.length co11)) (fun _ h_ => h_.1))) hb); have n1_ := am_ (blk_below (g := gb402) (o := .cells #[.int .i64 t395, .int .i64 t396, .slice Ao11 t397.length co11] 37 (0, 0)) (by (with_reducible repeat (first | refine k1_ ?_ _ | refine k2_ ?_ | refine k3_ ?_ _)); refine blk_put (cs := #[.int .i64 t395, .int .i64 t396, .slice none 0 0]) ?_ 2 _ rfl; (with_reducible repeat (first | refine k1_ ?_ _ | refine k2_ ?_ | refine k3_ ?_ _)); refine blk_put (cs := #[.int .i64 t395, .int .i64 0, .slice none 0 0]) ?_ 1 _ rfl; (with_reducible repeat (first | refine k1_ ?_ _ | refine k2_ ?_ | refine k3_ ?_ _)); refine blk_put (cs := #[.int .i64 0, .int .i64 0, .slice none 0 0]) ?_ 0 _ rfl; (with_reducible repeat (first | refine k1_ ?_ _ | refine k2_ ?_ | refine k3_ ?_ _)); exact BK402.out) hb); have n2_ := am_ (below_step (by repeat (first | (with_reducible first | exact HB.out | apply b1_ | apply b2_ | apply b3_ | refine below_set ?_ GE402.out) | exact HB.out)) hb); replace HO399 := n0_; replace BK402 := n1_; replace HB := n2_; clear n0_ n1_ n2_; (try clear hb); (try clear hb2); (try clear hk); (try clear hi); have hcz13_0 : w12.cell? ⟨gb402, 0, none⟩ = some (.int .i64 t395) := (blk_cell BK402.out 0).trans rfl; have hcz13_1 : w12.cell? ⟨gb402, 1, none⟩ = some (.int .i64 t396) := (blk_cell BK402.out 1).trans rfl; have hcz13_2 : w12.cell? ⟨gb402, 2, none⟩ = some (.slice Ao11 t397.length co11) := (blk_cell BK402.out 2).trans rfl; have hfz13_0 := blk_frozen BK402.out 0; have hfz13_1 := blk_frozen BK402.out 1; have hfz13_2 := blk_frozen BK402.out 2) | ((with_reducible refine gate_callee (f := 29) rfl ?_); refine goesL_ (some 34) rfl rfl Try.func29 (by kernel_rfl) rfl #[.agg #[.int .i64 t395, .int .i64 t396, .slice Ao11 t397.length co11], .int .i64 t400, .int .i64 t401] rfl (by (try simp only [mt_, mc_, mn_]); first | done | rfl | (simp only [ld_, lt_]; rfl)) ?_; (with_reducible refine (impl_WayTo.calls k t395 t396 _ _ t397 t400 t401 t404 _ ?side1 ?side2 A6.out).mono ?_); (case side1 => repeat (first | exact (Kd.Q_reads' HO399.out).2.2 | (with_reducible first | refine c1_ ?_ _ | refine c2_ ?_ _ | refine c3_ ?_))); (case side2 => exact (Kd.Q_reads' HO399.out).2.1); rintro e w14 ⟨v405, rfl, ho0, hb⟩; refine ⟨_, rfl, ?_⟩; have n0_ := am_ (Kd.Q_elder' (by (with_reducible repeat (first | apply q1_ | apply q2_ | apply q3_)); exact HO399.out) (Kd.R_base ho0) hb); have n1_ := am_ (Kd.R_lower (Kd.R_new' ho0 (Kd.Q_lt (by (with_reducible repeat (first | apply q1_ | apply q2_ | apply q3_)); exact HO399.out))) (below_size (by repeat (first | (with_reducible first | exact HB.out | apply b1_ | apply b2_ | apply b3_ | refine below_set ?_ GE402.out) | exact HB.out)))); have n2_ := am_ (blk_below (g := gb402) (o := .cells #[.int .i64 t395, .int .i64 t396, .slice Ao11 t397.length co11] 37 (0, 0)) (by (with_reducible repeat (first | refine k1_ ?_ _ | refine k2_ ?_ | refine k3_ ?_ _)); exact BK402.out) hb); have n3_ := am_ (below_step (by repeat (first | (with_reducible first | exact HB.out | apply b1_ | apply b2_ | apply b3_ | refine below_set ?_ GE402.out) | exact HB.out)) hb); replace HO399 := n0_; have HO406 := n1_; replace BK402 := n2_; replace HB := n3_; clear n0_ n1_ n2_ n3_; (try clear hb); (try clear hb2); (try clear hk); (try clear hi); (try clear ho0)))
 (try simp only [Act.put, List.setIfInBounds_toArray, List.set_cons_zero, List.set_cons_succ])
 go_cut [88] (fun v88 wc => ∃ (kq : Nat) (x88_6 : Bool), v88 = .bool x88_6 ∧ Aside0 (laws_FnWays.j0 kq l0 t400 t401 t403 t404 x88_6 t395 t396 t397 = some r) ∧ Aside0 (kq ≤ k) ∧ Aside0 (Kd.R (Kd.int .i64) 3 wc w.heap.size (fun k_ => some k_ ≠ ((.slice Ao11 t397.length co11) : Value).ownBlock) v405 t404) ∧ Aside0 (Kd.Q (Kd.int .i64) 3 wc w.heap.size (fun k_ => some k_ ≠ (v405 : Value).ownBlock) (.slice Ao11 t397.length co11) t397) ∧ Aside0 (wc.heap[gb402]? = some (.cells #[.int .i64 t395, .int .i64 t396, (.slice Ao11 t397.length co11)] 37 (0, 0))) ∧ Aside0 (Below w.heap.size w wc))
 case first => as_aux_lemma =>
  have H := HC7.out
  clear HC7
  replace H := Option.bind_eq_some_iff.mp H
  obtain ⟨t407, A150, H⟩ := H
  replace H : (if t403 = t407 then (if ((decide (t403 ≥ 0)) != (decide ((t404.length : Int) > 0))) = true then (laws_FnWays.j0 k l0 t400 t401 t403 t404 true t395 t396 t397) else (if t403 ≥ 0 then (if (t404.length : Int) = (wrap64 (t403 + 1)) then ((impl_IsWay.f k t395 t396 t397 t404).bind fun t408 => (if t408 = true then (if 0 < (t404.length : Int) then (if (rd t404 0) = t400 then (if 0 ≤ t403 then (if t403 < (t404.length : Int) then (if (rd t404 t403) = t401 then ((impl_Apart.f k t395 t396 t397 t400 t401).bind fun t411 => (laws_FnWays.j0 k l0 t400 t401 t403 t404 (decide (t403 < t411)) t395 t396 t397)) else (laws_FnWays.j0 k l0 t400 t401 t403 t404 true t395 t396 t397)) else (none)) else (none)) else (laws_FnWays.j0 k l0 t400 t401 t403 t404 true t395 t396 t397)) else (none)) else (laws_FnWays.j0 k l0 t400 t401 t403 t404 true t395 t396 t397))) else (laws_FnWays.j0 k l0 t400 t401 t403 t404 true t395 t396 t397)) else (laws_FnWays.j0 k l0 t400 t401 t403 t404 false t395 t396 t397))) else (laws_FnWays.j0 k l0 t400 t401 t403 t404 true t395 t396 t397)) = some r := H
  have A15 := am_ A150
  clear A150
  by_cases c16 : t403 = t407
  rotate_left
  ·rw [if_neg c16] at H
   have c16b0 : (t403 == t407) = false := beq_eq_false_iff_ne.mpr c16
   have c16b1 : (t403 != t407) = true := bne_iff_ne.mpr c16
   (first | rw [c16b0] | (simp only [i64_w, i32_w]; rw [c16b0]) | skip)
   have H' := am_ H
   clear H
   have hcz59_0 : w14.cell? ⟨gb402, 0, none⟩ = some (.int .i64 t395) := (blk_cell BK402.out 0).trans rfl
   have hcz59_1 : w14.cell? ⟨gb402, 1, none⟩ = some (.int .i64 t396) := (blk_cell BK402.out 1).trans rfl
   have hcz59_2 : w14.cell? ⟨gb402, 2, none⟩ = some (.slice Ao11 t397.length co11) := (blk_cell BK402.out 2).trans rfl
   have hfz59_0 := blk_frozen BK402.out 0
   have hfz59_1 := blk_frozen BK402.out 1
   have hfz59_2 := blk_frozen BK402.out 2
   go_wp2_with (first | ((with_reducible refine gate_callee (f := 28) rfl ?_); refine goesL_ (some 39) rfl rfl Try.func28 (by kernel_rfl) rfl #[.agg #[.int .i64 t395, .int .i64 t396, .slice Ao11 t397.length co11], .int .i64 t401, .int .i64 t400] rfl (by (try simp only [mt_, mc_, mn_]); first | done | rfl | (simp only [ld_, lt_]; rfl)) ?_; (with_reducible refine (impl_Days.calls k t395 t396 _ _ t397 t401 t400 t407 _ ?side1 ?side2 A15.out).mono ?_); (case side1 => repeat (first | exact (Kd.Q_reads' HO399.out).2.2 | (with_reducible first | refine c1_ ?_ _ | refine c2_ ?_ _ | refine c3_ ?_))); (case side2 => exact (Kd.Q_reads' HO399.out).2.1); rintro e w60 ⟨rfl, hb⟩; refine ⟨_, rfl, ?_⟩; have n0_ := am_ (Kd.Q_below (by (with_reducible repeat (first | apply q1_ | apply q2_ | apply q3_)); exact HO399.out) hb); have n1_ := am_ (Kd.R_below (by (with_reducible repeat (first | apply r1_ | apply r2_ | apply r3_)); exact HO406.out) hb); have n2_ := am_ (blk_below (g := gb402) (o := .cells #[.int .i64 t395, .int .i64 t396, .slice Ao11 t397.length co11] 37 (0, 0)) (by (with_reducible repeat (first | refine k1_ ?_ _ | refine k2_ ?_ | refine k3_ ?_ _)); exact BK402.out) hb); have n3_ := am_ (below_step (by repeat (first | (with_reducible first | exact HB.out | apply b1_ | apply b2_ | apply b3_ | refine below_set ?_ GE402.out) | exact HB.out)) hb); replace HO399 := n0_; replace HO406 := n1_; replace BK402 := n2_; replace HB := n3_; clear n0_ n1_ n2_ n3_; (try clear hb); (try clear hb2); (try clear hk); (try clear hi)))
   go_meet
   case rel => exact ⟨_, (true), (by first | rfl | (simp; done) | (simp [*]; done)), H', ⟨by first | omega | exact Nat.le_refl _⟩, ⟨by (with_reducible repeat (first | apply r1_ | apply r2_ | apply r3_)); exact Kd.R_mono HO406.out (fun _ hk => hk.2)⟩, ⟨by (with_reducible repeat (first | apply q1_ | apply q2_ | apply q3_)); exact Kd.Q_mono HO399.out (fun _ hk => hk.2)⟩, ⟨by (with_reducible repeat (first | refine k1_ ?_ _ | refine k2_ ?_ | refine k3_ ?_ _)); exact BK402.out⟩, ⟨by repeat (first | (with_reducible first | exact HB.out | apply b1_ | apply b2_ | apply b3_ | refine below_set ?_ GE402.out) | exact HB.out)⟩⟩
  rw [if_pos c16] at H
  have c16b0 : (t403 == t407) = true := beq_iff_eq.mpr c16
  have c16b1 : (t403 != t407) = false := bne_eq_false_iff_eq.mpr c16
  clear c16
  (first | rw [c16b0] | (simp only [i64_w, i32_w]; rw [c16b0]) | skip)
  by_cases c17 : ((decide (t403 ≥ 0)) != (decide ((t404.length : Int) > 0))) = true
  ·rw [if_pos c17] at H
   have c17b0 : ((decide (t403 ≥ 0)) != (decide ((t404.length : Int) > 0))) = true := c17
   (try (have c17b1 : decide ((decide (t403 ≥ 0)) = (decide ((t404.length : Int) > 0))) = false := by simpa using c17))
   (try (have c17b2 : ((decide (t403 ≥ 0)) == (decide ((t404.length : Int) > 0))) = false := by simpa using c17))
   (try (have c17b3 : ¬ ((decide (t403 ≥ 0)) = (decide ((t404.length : Int) > 0))) := by simpa using c17))
   clear c17
   have H' := am_ H
   clear H
   have hcz18_0 : w14.cell? ⟨gb402, 0, none⟩ = some (.int .i64 t395) := (blk_cell BK402.out 0).trans rfl
   have hcz18_1 : w14.cell? ⟨gb402, 1, none⟩ = some (.int .i64 t396) := (blk_cell BK402.out 1).trans rfl
   have hcz18_2 : w14.cell? ⟨gb402, 2, none⟩ = some (.slice Ao11 t397.length co11) := (blk_cell BK402.out 2).trans rfl
   have hfz18_0 := blk_frozen BK402.out 0
   have hfz18_1 := blk_frozen BK402.out 1
   have hfz18_2 := blk_frozen BK402.out 2
   rcases bne_yes c17b0 with ⟨c17e1, c17e2⟩ | ⟨c17e1, c17e2⟩
   all_goals
    obtain ⟨c17b8, c17b9⟩ := nat_pos8 c17e2
    have c17b7 : decide (0 ≤ t403) = _ := c17e1
    go_wp2_with (first | ((with_reducible refine gate_callee (f := 28) rfl ?_); refine goesL_ (some 39) rfl rfl Try.func28 (by kernel_rfl) rfl #[.agg #[.int .i64 t395, .int .i64 t396, .slice Ao11 t397.length co11], .int .i64 t401, .int .i64 t400] rfl (by (try simp only [mt_, mc_, mn_]); first | done | rfl | (simp only [ld_, lt_]; rfl)) ?_; (with_reducible refine (impl_Days.calls k t395 t396 _ _ t397 t401 t400 t407 _ ?side1 ?side2 A15.out).mono ?_); (case side1 => repeat (first | exact (Kd.Q_reads' HO399.out).2.2 | (with_reducible first | refine c1_ ?_ _ | refine c2_ ?_ _ | refine c3_ ?_))); (case side2 => exact (Kd.Q_reads' HO399.out).2.1); rintro e w19 ⟨rfl, hb⟩; refine ⟨_, rfl, ?_⟩; have n0_ := am_ (Kd.Q_below (by (with_reducible repeat (first | apply q1_ | apply q2_ | apply q3_)); exact HO399.out) hb); have n1_ := am_ (Kd.R_below (by (with_reducible repeat (first | apply r1_ | apply r2_ | apply r3_)); exact HO406.out) hb); have n2_ := am_ (blk_below (g := gb402) (o := .cells #[.int .i64 t395, .int .i64 t396, .slice Ao11 t397.length co11] 37 (0, 0)) (by (with_reducible repeat (first | refine k1_ ?_ _ | refine k2_ ?_ | refine k3_ ?_ _)); exact BK402.out) hb); have n3_ := am_ (below_step (by repeat (first | (with_reducible first | exact HB.out | apply b1_ | apply b2_ | apply b3_ | refine below_set ?_ GE402.out) | exact HB.out)) hb); replace HO399 := n0_; replace HO406 := n1_; replace BK402 := n2_; replace HB := n3_; clear n0_ n1_ n2_ n3_; (try clear hb); (try clear hb2); (try clear hk); (try clear hi); obtain ⟨Ao20, co20, eo20⟩ := Kd.R_slice HO406.out; subst eo20))
    go_meet
    case rel => exact ⟨_, (true), (by first | rfl | (simp; done) | (simp [*]; done)), H', ⟨by first | omega | exact Nat.le_refl _⟩, ⟨by (with_reducible repeat (first | apply r1_ | apply r2_ | apply r3_)); exact Kd.R_mono HO406.out (fun _ hk => hk.2)⟩, ⟨by (with_reducible repeat (first | apply q1_ | apply q2_ | apply q3_)); exact Kd.Q_mono HO399.out (fun _ hk => hk.2)⟩, ⟨by (with_reducible repeat (first | refine k1_ ?_ _ | refine k2_ ?_ | refine k3_ ?_ _)); exact BK402.out⟩, ⟨by repeat (first | (with_reducible first | exact HB.out | apply b1_ | apply b2_ | apply b3_ | refine below_set ?_ GE402.out) | exact HB.out)⟩⟩
  rw [if_neg c17] at H
  have c17b0 : ((decide (t403 ≥ 0)) != (decide ((t404.length : Int) > 0))) = false := by simpa using c17
  (try (have c17b1 : decide ((decide (t403 ≥ 0)) = (decide ((t404.length : Int) > 0))) = true := by simpa using c17))
  (try (have c17b2 : ((decide (t403 ≥ 0)) == (decide ((t404.length : Int) > 0))) = true := by simpa using c17))
  clear c17
  by_cases c21 : t403 ≥ 0
  rotate_left
  ·rw [if_neg c21] at H
   have c21b0 : decide (0 ≤ t403) = false := decide_eq_false c21
   have c21b8 : decide (0 < (t404.length : Int)) = false := (bne_no c17b0).trans c21b0
   have c21b9 : decide (0 < t404.length) = false := decide_eq_false (by have := of_decide_eq_false c21b8; omega)
   clear c21
   have H' := am_ H
   clear H
   have hcz56_0 : w14.cell? ⟨gb402, 0, none⟩ = some (.int .i64 t395) := (blk_cell BK402.out 0).trans rfl
   have hcz56_1 : w14.cell? ⟨gb402, 1, none⟩ = some (.int .i64 t396) := (blk_cell BK402.out 1).trans rfl
   have hcz56_2 : w14.cell? ⟨gb402, 2, none⟩ = some (.slice Ao11 t397.length co11) := (blk_cell BK402.out 2).trans rfl
   have hfz56_0 := blk_frozen BK402.out 0
   have hfz56_1 := blk_frozen BK402.out 1
   have hfz56_2 := blk_frozen BK402.out 2
   go_wp2_with (first | ((with_reducible refine gate_callee (f := 28) rfl ?_); refine goesL_ (some 39) rfl rfl Try.func28 (by kernel_rfl) rfl #[.agg #[.int .i64 t395, .int .i64 t396, .slice Ao11 t397.length co11], .int .i64 t401, .int .i64 t400] rfl (by (try simp only [mt_, mc_, mn_]); first | done | rfl | (simp only [ld_, lt_]; rfl)) ?_; (with_reducible refine (impl_Days.calls k t395 t396 _ _ t397 t401 t400 t407 _ ?side1 ?side2 A15.out).mono ?_); (case side1 => repeat (first | exact (Kd.Q_reads' HO399.out).2.2 | (with_reducible first | refine c1_ ?_ _ | refine c2_ ?_ _ | refine c3_ ?_))); (case side2 => exact (Kd.Q_reads' HO399.out).2.1); rintro e w57 ⟨rfl, hb⟩; refine ⟨_, rfl, ?_⟩; have n0_ := am_ (Kd.Q_below (by (with_reducible repeat (first | apply q1_ | apply q2_ | apply q3_)); exact HO399.out) hb); have n1_ := am_ (Kd.R_below (by (with_reducible repeat (first | apply r1_ | apply r2_ | apply r3_)); exact HO406.out) hb); have n2_ := am_ (blk_below (g := gb402) (o := .cells #[.int .i64 t395, .int .i64 t396, .slice Ao11 t397.length co11] 37 (0, 0)) (by (with_reducible repeat (first | refine k1_ ?_ _ | refine k2_ ?_ | refine k3_ ?_ _)); exact BK402.out) hb); have n3_ := am_ (below_step (by repeat (first | (with_reducible first | exact HB.out | apply b1_ | apply b2_ | apply b3_ | refine below_set ?_ GE402.out) | exact HB.out)) hb); replace HO399 := n0_; replace HO406 := n1_; replace BK402 := n2_; replace HB := n3_; clear n0_ n1_ n2_ n3_; (try clear hb); (try clear hb2); (try clear hk); (try clear hi); obtain ⟨Ao58, co58, eo58⟩ := Kd.R_slice HO406.out; subst eo58))
   go_meet
   case rel => exact ⟨_, (false), (by first | rfl | (simp; done) | (simp [*]; done)), H', ⟨by first | omega | exact Nat.le_refl _⟩, ⟨by (with_reducible repeat (first | apply r1_ | apply r2_ | apply r3_)); exact Kd.R_mono HO406.out (fun _ hk => hk.2)⟩, ⟨by (with_reducible repeat (first | apply q1_ | apply q2_ | apply q3_)); exact Kd.Q_mono HO399.out (fun _ hk => hk.2)⟩, ⟨by (with_reducible repeat (first | refine k1_ ?_ _ | refine k2_ ?_ | refine k3_ ?_ _)); exact BK402.out⟩, ⟨by repeat (first | (with_reducible first | exact HB.out | apply b1_ | apply b2_ | apply b3_ | refine below_set ?_ GE402.out) | exact HB.out)⟩⟩
  rw [if_pos c21] at H
  have c21b0 : decide (0 ≤ t403) = true := decide_eq_true c21
  have c21b8 : decide (0 < (t404.length : Int)) = true := (bne_no c17b0).trans c21b0
  have c21b9 : decide (0 < t404.length) = true := decide_eq_true (by have := of_decide_eq_true c21b8; omega)
  clear c21
  by_cases c22 : (t404.length : Int) = (wrap64 (t403 + 1))
  rotate_left
  ·rw [if_neg c22] at H
   have c22b0 : ((t404.length : Int) == (wrap64 (t403 + 1))) = false := beq_eq_false_iff_ne.mpr c22
   have c22b1 : ((t404.length : Int) != (wrap64 (t403 + 1))) = true := bne_iff_ne.mpr c22
   have H' := am_ H
   clear H
   have hcz53_0 : w14.cell? ⟨gb402, 0, none⟩ = some (.int .i64 t395) := (blk_cell BK402.out 0).trans rfl
   have hcz53_1 : w14.cell? ⟨gb402, 1, none⟩ = some (.int .i64 t396) := (blk_cell BK402.out 1).trans rfl
   have hcz53_2 : w14.cell? ⟨gb402, 2, none⟩ = some (.slice Ao11 t397.length co11) := (blk_cell BK402.out 2).trans rfl
   have hfz53_0 := blk_frozen BK402.out 0
   have hfz53_1 := blk_frozen BK402.out 1
   have hfz53_2 := blk_frozen BK402.out 2
   go_wp2_with (first | ((with_reducible refine gate_callee (f := 28) rfl ?_); refine goesL_ (some 39) rfl rfl Try.func28 (by kernel_rfl) rfl #[.agg #[.int .i64 t395, .int .i64 t396, .slice Ao11 t397.length co11], .int .i64 t401, .int .i64 t400] rfl (by (try simp only [mt_, mc_, mn_]); first | done | rfl | (simp only [ld_, lt_]; rfl)) ?_; (with_reducible refine (impl_Days.calls k t395 t396 _ _ t397 t401 t400 t407 _ ?side1 ?side2 A15.out).mono ?_); (case side1 => repeat (first | exact (Kd.Q_reads' HO399.out).2.2 | (with_reducible first | refine c1_ ?_ _ | refine c2_ ?_ _ | refine c3_ ?_))); (case side2 => exact (Kd.Q_reads' HO399.out).2.1); rintro e w54 ⟨rfl, hb⟩; refine ⟨_, rfl, ?_⟩; have n0_ := am_ (Kd.Q_below (by (with_reducible repeat (first | apply q1_ | apply q2_ | apply q3_)); exact HO399.out) hb); have n1_ := am_ (Kd.R_below (by (with_reducible repeat (first | apply r1_ | apply r2_ | apply r3_)); exact HO406.out) hb); have n2_ := am_ (blk_below (g := gb402) (o := .cells #[.int .i64 t395, .int .i64 t396, .slice Ao11 t397.length co11] 37 (0, 0)) (by (with_reducible repeat (first | refine k1_ ?_ _ | refine k2_ ?_ | refine k3_ ?_ _)); exact BK402.out) hb); have n3_ := am_ (below_step (by repeat (first | (with_reducible first | exact HB.out | apply b1_ | apply b2_ | apply b3_ | refine below_set ?_ GE402.out) | exact HB.out)) hb); replace HO399 := n0_; replace HO406 := n1_; replace BK402 := n2_; replace HB := n3_; clear n0_ n1_ n2_ n3_; (try clear hb); (try clear hb2); (try clear hk); (try clear hi); obtain ⟨Ao55, co55, eo55⟩ := Kd.R_slice HO406.out; subst eo55))
   go_meet
   case rel => exact ⟨_, (true), (by first | rfl | (simp; done) | (simp [*]; done)), H', ⟨by first | omega | exact Nat.le_refl _⟩, ⟨by (with_reducible repeat (first | apply r1_ | apply r2_ | apply r3_)); exact Kd.R_mono HO406.out (fun _ hk => hk.2)⟩, ⟨by (with_reducible repeat (first | apply q1_ | apply q2_ | apply q3_)); exact Kd.Q_mono HO399.out (fun _ hk => hk.2)⟩, ⟨by (with_reducible repeat (first | refine k1_ ?_ _ | refine k2_ ?_ | refine k3_ ?_ _)); exact BK402.out⟩, ⟨by repeat (first | (with_reducible first | exact HB.out | apply b1_ | apply b2_ | apply b3_ | refine below_set ?_ GE402.out) | exact HB.out)⟩⟩
  rw [if_pos c22] at H
  have c22b0 : ((t404.length : Int) == (wrap64 (t403 + 1))) = true := beq_iff_eq.mpr c22
  have c22b1 : ((t404.length : Int) != (wrap64 (t403 + 1))) = false := bne_eq_false_iff_eq.mpr c22
  clear c22
  replace H := Option.bind_eq_some_iff.mp H
  obtain ⟨t408, A230, H⟩ := H
  replace H : (if t408 = true then (if 0 < (t404.length : Int) then (if (rd t404 0) = t400 then (if 0 ≤ t403 then (if t403 < (t404.length : Int) then (if (rd t404 t403) = t401 then ((impl_Apart.f k t395 t396 t397 t400 t401).bind fun t411 => (laws_FnWays.j0 k l0 t400 t401 t403 t404 (decide (t403 < t411)) t395 t396 t397)) else (laws_FnWays.j0 k l0 t400 t401 t403 t404 true t395 t396 t397)) else (none)) else (none)) else (laws_FnWays.j0 k l0 t400 t401 t403 t404 true t395 t396 t397)) else (none)) else (laws_FnWays.j0 k l0 t400 t401 t403 t404 true t395 t396 t397)) = some r := H
  have A23 := am_ A230
  clear A230
  by_cases c24 : t408 = true
  rotate_left
  ·replace c24 := Bool.eq_false_iff.mpr c24
   subst c24
   have H1 : (laws_FnWays.j0 k l0 t400 t401 t403 t404 true t395 t396 t397) = some r := by rw [if_neg (show ¬ (false = true) by decide)] at H; exact H
   clear H
   have H := H1
   clear H1
   have H' := am_ H
   clear H
   have hcz48_0 : w14.cell? ⟨gb402, 0, none⟩ = some (.int .i64 t395) := (blk_cell BK402.out 0).trans rfl
   have hcz48_1 : w14.cell? ⟨gb402, 1, none⟩ = some (.int .i64 t396) := (blk_cell BK402.out 1).trans rfl
   have hcz48_2 : w14.cell? ⟨gb402, 2, none⟩ = some (.slice Ao11 t397.length co11) := (blk_cell BK402.out 2).trans rfl
   have hfz48_0 := blk_frozen BK402.out 0
   have hfz48_1 := blk_frozen BK402.out 1
   have hfz48_2 := blk_frozen BK402.out 2
   go_wp2_with (first | ((with_reducible refine gate_callee (f := 28) rfl ?_); refine goesL_ (some 39) rfl rfl Try.func28 (by kernel_rfl) rfl #[.agg #[.int .i64 t395, .int .i64 t396, .slice Ao11 t397.length co11], .int .i64 t401, .int .i64 t400] rfl (by (try simp only [mt_, mc_, mn_]); first | done | rfl | (simp only [ld_, lt_]; rfl)) ?_; (with_reducible refine (impl_Days.calls k t395 t396 _ _ t397 t401 t400 t407 _ ?side1 ?side2 A15.out).mono ?_); (case side1 => repeat (first | exact (Kd.Q_reads' HO399.out).2.2 | (with_reducible first | refine c1_ ?_ _ | refine c2_ ?_ _ | refine c3_ ?_))); (case side2 => exact (Kd.Q_reads' HO399.out).2.1); rintro e w49 ⟨rfl, hb⟩; refine ⟨_, rfl, ?_⟩; have n0_ := am_ (Kd.Q_below (by (with_reducible repeat (first | apply q1_ | apply q2_ | apply q3_)); exact HO399.out) hb); have n1_ := am_ (Kd.R_below (by (with_reducible repeat (first | apply r1_ | apply r2_ | apply r3_)); exact HO406.out) hb); have n2_ := am_ (blk_below (g := gb402) (o := .cells #[.int .i64 t395, .int .i64 t396, .slice Ao11 t397.length co11] 37 (0, 0)) (by (with_reducible repeat (first | refine k1_ ?_ _ | refine k2_ ?_ | refine k3_ ?_ _)); exact BK402.out) hb); have n3_ := am_ (below_step (by repeat (first | (with_reducible first | exact HB.out | apply b1_ | apply b2_ | apply b3_ | refine below_set ?_ GE402.out) | exact HB.out)) hb); replace HO399 := n0_; replace HO406 := n1_; replace BK402 := n2_; replace HB := n3_; clear n0_ n1_ n2_ n3_; (try clear hb); (try clear hb2); (try clear hk); (try clear hi); obtain ⟨Ao50, co50, eo50⟩ := Kd.R_slice HO406.out; subst eo50; have hcz51_0 : w49.cell? ⟨gb402, 0, none⟩ = some (.int .i64 t395) := (blk_cell BK402.out 0).trans rfl; have hcz51_1 : w49.cell? ⟨gb402, 1, none⟩ = some (.int .i64 t396) := (blk_cell BK402.out 1).trans rfl; have hcz51_2 : w49.cell? ⟨gb402, 2, none⟩ = some (.slice Ao11 t397.length co11) := (blk_cell BK402.out 2).trans rfl; have hfz51_0 := blk_frozen BK402.out 0; have hfz51_1 := blk_frozen BK402.out 1; have hfz51_2 := blk_frozen BK402.out 2) | (go_at_call 30; (with_reducible refine (impl_IsWay.calls k t395 t396 _ _ t397 _ _ t404 false _ ?side1 ?side2 ?side3 ?side4 A23.out).mono ?_); (case side1 => repeat (first | exact (Kd.Q_reads' HO399.out).2.2 | (with_reducible first | refine c1_ ?_ _ | refine c2_ ?_ _ | refine c3_ ?_))); (case side2 => exact (Kd.Q_reads' HO399.out).2.1); (case side3 => repeat (first | exact (Kd.R_reads' HO406.out).2.2 | (with_reducible first | refine c1_ ?_ _ | refine c2_ ?_ _ | refine c3_ ?_))); (case side4 => exact (Kd.R_reads' HO406.out).2.1); rintro e w52 ⟨rfl, hb⟩; have n0_ := am_ (Kd.Q_below (by (with_reducible repeat (first | apply q1_ | apply q2_ | apply q3_)); exact HO399.out) hb); have n1_ := am_ (Kd.R_below (by (with_reducible repeat (first | apply r1_ | apply r2_ | apply r3_)); exact HO406.out) hb); have n2_ := am_ (blk_below (g := gb402) (o := .cells #[.int .i64 t395, .int .i64 t396, .slice Ao11 t397.length co11] 37 (0, 0)) (by (with_reducible repeat (first | refine k1_ ?_ _ | refine k2_ ?_ | refine k3_ ?_ _)); exact BK402.out) hb); have n3_ := am_ (below_step (by repeat (first | (with_reducible first | exact HB.out | apply b1_ | apply b2_ | apply b3_ | refine below_set ?_ GE402.out) | exact HB.out)) hb); replace HO399 := n0_; replace HO406 := n1_; replace BK402 := n2_; replace HB := n3_; clear n0_ n1_ n2_ n3_; (try clear hb); (try clear hb2); (try clear hk); (try clear hi)))
   go_meet
   case rel => exact ⟨_, (true), (by first | rfl | (simp; done) | (simp [*]; done)), H', ⟨by first | omega | exact Nat.le_refl _⟩, ⟨by (with_reducible repeat (first | apply r1_ | apply r2_ | apply r3_)); exact Kd.R_mono HO406.out (fun _ hk => hk.2)⟩, ⟨by (with_reducible repeat (first | apply q1_ | apply q2_ | apply q3_)); exact Kd.Q_mono HO399.out (fun _ hk => hk.2)⟩, ⟨by (with_reducible repeat (first | refine k1_ ?_ _ | refine k2_ ?_ | refine k3_ ?_ _)); exact BK402.out⟩, ⟨by repeat (first | (with_reducible first | exact HB.out | apply b1_ | apply b2_ | apply b3_ | refine below_set ?_ GE402.out) | exact HB.out)⟩⟩
  subst c24
  have H1 : (if 0 < (t404.length : Int) then (if (rd t404 0) = t400 then (if 0 ≤ t403 then (if t403 < (t404.length : Int) then (if (rd t404 t403) = t401 then ((impl_Apart.f k t395 t396 t397 t400 t401).bind fun t411 => (laws_FnWays.j0 k l0 t400 t401 t403 t404 (decide (t403 < t411)) t395 t396 t397)) else (laws_FnWays.j0 k l0 t400 t401 t403 t404 true t395 t396 t397)) else (none)) else (none)) else (laws_FnWays.j0 k l0 t400 t401 t403 t404 true t395 t396 t397)) else (none)) = some r := by rw [if_pos rfl] at H; exact H
  clear H
  have H := H1
  clear H1
  by_cases c25 : 0 < (t404.length : Int)
  rotate_left
  ·rw [if_neg c25] at H
   exact absurd H (by simp)
  rw [if_pos c25] at H
  have c25b0 : decide (0 < (t404.length : Int)) = true := decide_eq_true c25
  have c25b1 : decide (0 < t404.length) = true := decide_eq_true (by omega)
  clear c25
  by_cases c26 : (rd t404 0) = t400
  rotate_left
  ·rw [if_neg c26] at H
   have c26b0 : ((rd t404 0) == t400) = false := beq_eq_false_iff_ne.mpr c26
   have c26b1 : ((rd t404 0) != t400) = true := bne_iff_ne.mpr c26
   have H' := am_ H
   clear H
   have hcz43_0 : w14.cell? ⟨gb402, 0, none⟩ = some (.int .i64 t395) := (blk_cell BK402.out 0).trans rfl
   have hcz43_1 : w14.cell? ⟨gb402, 1, none⟩ = some (.int .i64 t396) := (blk_cell BK402.out 1).trans rfl
   have hcz43_2 : w14.cell? ⟨gb402, 2, none⟩ = some (.slice Ao11 t397.length co11) := (blk_cell BK402.out 2).trans rfl
   have hfz43_0 := blk_frozen BK402.out 0
   have hfz43_1 := blk_frozen BK402.out 1
   have hfz43_2 := blk_frozen BK402.out 2
   go_wp2_with (first | ((with_reducible refine gate_callee (f := 28) rfl ?_); refine goesL_ (some 39) rfl rfl Try.func28 (by kernel_rfl) rfl #[.agg #[.int .i64 t395, .int .i64 t396, .slice Ao11 t397.length co11], .int .i64 t401, .int .i64 t400] rfl (by (try simp only [mt_, mc_, mn_]); first | done | rfl | (simp only [ld_, lt_]; rfl)) ?_; (with_reducible refine (impl_Days.calls k t395 t396 _ _ t397 t401 t400 t407 _ ?side1 ?side2 A15.out).mono ?_); (case side1 => repeat (first | exact (Kd.Q_reads' HO399.out).2.2 | (with_reducible first | refine c1_ ?_ _ | refine c2_ ?_ _ | refine c3_ ?_))); (case side2 => exact (Kd.Q_reads' HO399.out).2.1); rintro e w44 ⟨rfl, hb⟩; refine ⟨_, rfl, ?_⟩; have n0_ := am_ (Kd.Q_below (by (with_reducible repeat (first | apply q1_ | apply q2_ | apply q3_)); exact HO399.out) hb); have n1_ := am_ (Kd.R_below (by (with_reducible repeat (first | apply r1_ | apply r2_ | apply r3_)); exact HO406.out) hb); have n2_ := am_ (blk_below (g := gb402) (o := .cells #[.int .i64 t395, .int .i64 t396, .slice Ao11 t397.length co11] 37 (0, 0)) (by (with_reducible repeat (first | refine k1_ ?_ _ | refine k2_ ?_ | refine k3_ ?_ _)); exact BK402.out) hb); have n3_ := am_ (below_step (by repeat (first | (with_reducible first | exact HB.out | apply b1_ | apply b2_ | apply b3_ | refine below_set ?_ GE402.out) | exact HB.out)) hb); replace HO399 := n0_; replace HO406 := n1_; replace BK402 := n2_; replace HB := n3_; clear n0_ n1_ n2_ n3_; (try clear hb); (try clear hb2); (try clear hk); (try clear hi); obtain ⟨Ao45, co45, eo45⟩ := Kd.R_slice HO406.out; subst eo45; have hcz46_0 : w44.cell? ⟨gb402, 0, none⟩ = some (.int .i64 t395) := (blk_cell BK402.out 0).trans rfl; have hcz46_1 : w44.cell? ⟨gb402, 1, none⟩ = some (.int .i64 t396) := (blk_cell BK402.out 1).trans rfl; have hcz46_2 : w44.cell? ⟨gb402, 2, none⟩ = some (.slice Ao11 t397.length co11) := (blk_cell BK402.out 2).trans rfl; have hfz46_0 := blk_frozen BK402.out 0; have hfz46_1 := blk_frozen BK402.out 1; have hfz46_2 := blk_frozen BK402.out 2) | (go_at_call 30; (with_reducible refine (impl_IsWay.calls k t395 t396 _ _ t397 _ _ t404 true _ ?side1 ?side2 ?side3 ?side4 A23.out).mono ?_); (case side1 => repeat (first | exact (Kd.Q_reads' HO399.out).2.2 | (with_reducible first | refine c1_ ?_ _ | refine c2_ ?_ _ | refine c3_ ?_))); (case side2 => exact (Kd.Q_reads' HO399.out).2.1); (case side3 => repeat (first | exact (Kd.R_reads' HO406.out).2.2 | (with_reducible first | refine c1_ ?_ _ | refine c2_ ?_ _ | refine c3_ ?_))); (case side4 => exact (Kd.R_reads' HO406.out).2.1); rintro e w47 ⟨rfl, hb⟩; have n0_ := am_ (Kd.Q_below (by (with_reducible repeat (first | apply q1_ | apply q2_ | apply q3_)); exact HO399.out) hb); have n1_ := am_ (Kd.R_below (by (with_reducible repeat (first | apply r1_ | apply r2_ | apply r3_)); exact HO406.out) hb); have n2_ := am_ (blk_below (g := gb402) (o := .cells #[.int .i64 t395, .int .i64 t396, .slice Ao11 t397.length co11] 37 (0, 0)) (by (with_reducible repeat (first | refine k1_ ?_ _ | refine k2_ ?_ | refine k3_ ?_ _)); exact BK402.out) hb); have n3_ := am_ (below_step (by repeat (first | (with_reducible first | exact HB.out | apply b1_ | apply b2_ | apply b3_ | refine below_set ?_ GE402.out) | exact HB.out)) hb); replace HO399 := n0_; replace HO406 := n1_; replace BK402 := n2_; replace HB := n3_; clear n0_ n1_ n2_ n3_; (try clear hb); (try clear hb2); (try clear hk); (try clear hi); have p409 : 0 ≤ (0 : Int) := (by omega); have q409 : 0 < (t404.length : Int) := of_decide_eq_true (by first | (with_reducible assumption) | assumption); obtain ⟨ad409, e409, hx409_0⟩ := Kd.at_int (Kd.R_reads' HO406.out).2.2 0 p409 q409; cases e409; have qi409 : (0 < t404.length) = True := eq_true (by omega); (try rw [show ((0 : Int)).toNat = 0 from rfl] at hx409_0); (try rw [Addr.add_zero'] at hx409_0); replace p409 := eq_true p409; replace q409 := eq_true q409))
   go_meet
   case rel => exact ⟨_, (true), (by first | rfl | (simp; done) | (simp [*]; done)), H', ⟨by first | omega | exact Nat.le_refl _⟩, ⟨by (with_reducible repeat (first | apply r1_ | apply r2_ | apply r3_)); exact Kd.R_mono HO406.out (fun _ hk => hk.2)⟩, ⟨by (with_reducible repeat (first | apply q1_ | apply q2_ | apply q3_)); exact Kd.Q_mono HO399.out (fun _ hk => hk.2)⟩, ⟨by (with_reducible repeat (first | refine k1_ ?_ _ | refine k2_ ?_ | refine k3_ ?_ _)); exact BK402.out⟩, ⟨by repeat (first | (with_reducible first | exact HB.out | apply b1_ | apply b2_ | apply b3_ | refine below_set ?_ GE402.out) | exact HB.out)⟩⟩
  rw [if_pos c26] at H
  have c26b0 : ((rd t404 0) == t400) = true := beq_iff_eq.mpr c26
  have c26b1 : ((rd t404 0) != t400) = false := bne_eq_false_iff_eq.mpr c26
  clear c26
  by_cases c27 : 0 ≤ t403
  rotate_left
  ·rw [if_neg c27] at H
   exact absurd H (by simp)
  rw [if_pos c27] at H
  have c27b0 : decide (0 ≤ t403) = true := decide_eq_true c27
  clear c27
  by_cases c28 : t403 < (t404.length : Int)
  rotate_left
  ·rw [if_neg c28] at H
   exact absurd H (by simp)
  rw [if_pos c28] at H
  have c28b0 : decide (t403 < (t404.length : Int)) = true := decide_eq_true c28
  clear c28
  by_cases c29 : (rd t404 t403) = t401
  rotate_left
  ·rw [if_neg c29] at H
   have c29b0 : ((rd t404 t403) == t401) = false := beq_eq_false_iff_ne.mpr c29
   have c29b1 : ((rd t404 t403) != t401) = true := bne_iff_ne.mpr c29
   have H' := am_ H
   clear H
   have hcz38_0 : w14.cell? ⟨gb402, 0, none⟩ = some (.int .i64 t395) := (blk_cell BK402.out 0).trans rfl
   have hcz38_1 : w14.cell? ⟨gb402, 1, none⟩ = some (.int .i64 t396) := (blk_cell BK402.out 1).trans rfl
   have hcz38_2 : w14.cell? ⟨gb402, 2, none⟩ = some (.slice Ao11 t397.length co11) := (blk_cell BK402.out 2).trans rfl
   have hfz38_0 := blk_frozen BK402.out 0
   have hfz38_1 := blk_frozen BK402.out 1
   have hfz38_2 := blk_frozen BK402.out 2
   go_wp2_with (first | ((with_reducible refine gate_callee (f := 28) rfl ?_); refine goesL_ (some 39) rfl rfl Try.func28 (by kernel_rfl) rfl #[.agg #[.int .i64 t395, .int .i64 t396, .slice Ao11 t397.length co11], .int .i64 t401, .int .i64 t400] rfl (by (try simp only [mt_, mc_, mn_]); first | done | rfl | (simp only [ld_, lt_]; rfl)) ?_; (with_reducible refine (impl_Days.calls k t395 t396 _ _ t397 t401 t400 t407 _ ?side1 ?side2 A15.out).mono ?_); (case side1 => repeat (first | exact (Kd.Q_reads' HO399.out).2.2 | (with_reducible first | refine c1_ ?_ _ | refine c2_ ?_ _ | refine c3_ ?_))); (case side2 => exact (Kd.Q_reads' HO399.out).2.1); rintro e w39 ⟨rfl, hb⟩; refine ⟨_, rfl, ?_⟩; have n0_ := am_ (Kd.Q_below (by (with_reducible repeat (first | apply q1_ | apply q2_ | apply q3_)); exact HO399.out) hb); have n1_ := am_ (Kd.R_below (by (with_reducible repeat (first | apply r1_ | apply r2_ | apply r3_)); exact HO406.out) hb); have n2_ := am_ (blk_below (g := gb402) (o := .cells #[.int .i64 t395, .int .i64 t396, .slice Ao11 t397.length co11] 37 (0, 0)) (by (with_reducible repeat (first | refine k1_ ?_ _ | refine k2_ ?_ | refine k3_ ?_ _)); exact BK402.out) hb); have n3_ := am_ (below_step (by repeat (first | (with_reducible first | exact HB.out | apply b1_ | apply b2_ | apply b3_ | refine below_set ?_ GE402.out) | exact HB.out)) hb); replace HO399 := n0_; replace HO406 := n1_; replace BK402 := n2_; replace HB := n3_; clear n0_ n1_ n2_ n3_; (try clear hb); (try clear hb2); (try clear hk); (try clear hi); obtain ⟨Ao40, co40, eo40⟩ := Kd.R_slice HO406.out; subst eo40; have hcz41_0 : w39.cell? ⟨gb402, 0, none⟩ = some (.int .i64 t395) := (blk_cell BK402.out 0).trans rfl; have hcz41_1 : w39.cell? ⟨gb402, 1, none⟩ = some (.int .i64 t396) := (blk_cell BK402.out 1).trans rfl; have hcz41_2 : w39.cell? ⟨gb402, 2, none⟩ = some (.slice Ao11 t397.length co11) := (blk_cell BK402.out 2).trans rfl; have hfz41_0 := blk_frozen BK402.out 0; have hfz41_1 := blk_frozen BK402.out 1; have hfz41_2 := blk_frozen BK402.out 2) | (go_at_call 30; (with_reducible refine (impl_IsWay.calls k t395 t396 _ _ t397 _ _ t404 true _ ?side1 ?side2 ?side3 ?side4 A23.out).mono ?_); (case side1 => repeat (first | exact (Kd.Q_reads' HO399.out).2.2 | (with_reducible first | refine c1_ ?_ _ | refine c2_ ?_ _ | refine c3_ ?_))); (case side2 => exact (Kd.Q_reads' HO399.out).2.1); (case side3 => repeat (first | exact (Kd.R_reads' HO406.out).2.2 | (with_reducible first | refine c1_ ?_ _ | refine c2_ ?_ _ | refine c3_ ?_))); (case side4 => exact (Kd.R_reads' HO406.out).2.1); rintro e w42 ⟨rfl, hb⟩; have n0_ := am_ (Kd.Q_below (by (with_reducible repeat (first | apply q1_ | apply q2_ | apply q3_)); exact HO399.out) hb); have n1_ := am_ (Kd.R_below (by (with_reducible repeat (first | apply r1_ | apply r2_ | apply r3_)); exact HO406.out) hb); have n2_ := am_ (blk_below (g := gb402) (o := .cells #[.int .i64 t395, .int .i64 t396, .slice Ao11 t397.length co11] 37 (0, 0)) (by (with_reducible repeat (first | refine k1_ ?_ _ | refine k2_ ?_ | refine k3_ ?_ _)); exact BK402.out) hb); have n3_ := am_ (below_step (by repeat (first | (with_reducible first | exact HB.out | apply b1_ | apply b2_ | apply b3_ | refine below_set ?_ GE402.out) | exact HB.out)) hb); replace HO399 := n0_; replace HO406 := n1_; replace BK402 := n2_; replace HB := n3_; clear n0_ n1_ n2_ n3_; (try clear hb); (try clear hb2); (try clear hk); (try clear hi); have p409 : 0 ≤ (0 : Int) := (by omega); have q409 : 0 < (t404.length : Int) := of_decide_eq_true (by first | (with_reducible assumption) | assumption); obtain ⟨ad409, e409, hx409_0⟩ := Kd.at_int (Kd.R_reads' HO406.out).2.2 0 p409 q409; cases e409; have qi409 : (0 < t404.length) = True := eq_true (by omega); (try rw [show ((0 : Int)).toNat = 0 from rfl] at hx409_0); (try rw [Addr.add_zero'] at hx409_0); replace p409 := eq_true p409; replace q409 := eq_true q409; have p410 : 0 ≤ (t403 : Int) := of_decide_eq_true (by first | (with_reducible assumption) | assumption); have q410 : t403 < (t404.length : Int) := of_decide_eq_true (by first | (with_reducible assumption) | assumption); obtain ⟨ad410, e410, hx410_0⟩ := Kd.at_int (Kd.R_reads' HO406.out).2.2 t403 p410 q410; obtain rfl : ad409 = ad410 := (by injection e410); replace p410 := eq_true p410; replace q410 := eq_true q410))
   go_meet
   case rel => exact ⟨_, (true), (by first | rfl | (simp; done) | (simp [*]; done)), H', ⟨by first | omega | exact Nat.le_refl _⟩, ⟨by (with_reducible repeat (first | apply r1_ | apply r2_ | apply r3_)); exact Kd.R_mono HO406.out (fun _ hk => hk.2)⟩, ⟨by (with_reducible repeat (first | apply q1_ | apply q2_ | apply q3_)); exact Kd.Q_mono HO399.out (fun _ hk => hk.2)⟩, ⟨by (with_reducible repeat (first | refine k1_ ?_ _ | refine k2_ ?_ | refine k3_ ?_ _)); exact BK402.out⟩, ⟨by repeat (first | (with_reducible first | exact HB.out | apply b1_ | apply b2_ | apply b3_ | refine below_set ?_ GE402.out) | exact HB.out)⟩⟩
  rw [if_pos c29] at H
  have c29b0 : ((rd t404 t403) == t401) = true := beq_iff_eq.mpr c29
  have c29b1 : ((rd t404 t403) != t401) = false := bne_eq_false_iff_eq.mpr c29
  clear c29
  replace H := Option.bind_eq_some_iff.mp H
  obtain ⟨t411, A300, H⟩ := H
  replace H : (laws_FnWays.j0 k l0 t400 t401 t403 t404 (decide (t403 < t411)) t395 t396 t397) = some r := H
  have A30 := am_ A300
  clear A300
  have H' := am_ H
  clear H
  have hcz31_0 : w14.cell? ⟨gb402, 0, none⟩ = some (.int .i64 t395) := (blk_cell BK402.out 0).trans rfl
  have hcz31_1 : w14.cell? ⟨gb402, 1, none⟩ = some (.int .i64 t396) := (blk_cell BK402.out 1).trans rfl
  have hcz31_2 : w14.cell? ⟨gb402, 2, none⟩ = some (.slice Ao11 t397.length co11) := (blk_cell BK402.out 2).trans rfl
  have hfz31_0 := blk_frozen BK402.out 0
  have hfz31_1 := blk_frozen BK402.out 1
  have hfz31_2 := blk_frozen BK402.out 2
  go_wp2_with (first | ((with_reducible refine gate_callee (f := 28) rfl ?_); refine goesL_ (some 39) rfl rfl Try.func28 (by kernel_rfl) rfl #[.agg #[.int .i64 t395, .int .i64 t396, .slice Ao11 t397.length co11], .int .i64 t401, .int .i64 t400] rfl (by (try simp only [mt_, mc_, mn_]); first | done | rfl | (simp only [ld_, lt_]; rfl)) ?_; (with_reducible refine (impl_Days.calls k t395 t396 _ _ t397 t401 t400 t407 _ ?side1 ?side2 A15.out).mono ?_); (case side1 => repeat (first | exact (Kd.Q_reads' HO399.out).2.2 | (with_reducible first | refine c1_ ?_ _ | refine c2_ ?_ _ | refine c3_ ?_))); (case side2 => exact (Kd.Q_reads' HO399.out).2.1); rintro e w32 ⟨rfl, hb⟩; refine ⟨_, rfl, ?_⟩; have n0_ := am_ (Kd.Q_below (by (with_reducible repeat (first | apply q1_ | apply q2_ | apply q3_)); exact HO399.out) hb); have n1_ := am_ (Kd.R_below (by (with_reducible repeat (first | apply r1_ | apply r2_ | apply r3_)); exact HO406.out) hb); have n2_ := am_ (blk_below (g := gb402) (o := .cells #[.int .i64 t395, .int .i64 t396, .slice Ao11 t397.length co11] 37 (0, 0)) (by (with_reducible repeat (first | refine k1_ ?_ _ | refine k2_ ?_ | refine k3_ ?_ _)); exact BK402.out) hb); have n3_ := am_ (below_step (by repeat (first | (with_reducible first | exact HB.out | apply b1_ | apply b2_ | apply b3_ | refine below_set ?_ GE402.out) | exact HB.out)) hb); replace HO399 := n0_; replace HO406 := n1_; replace BK402 := n2_; replace HB := n3_; clear n0_ n1_ n2_ n3_; (try clear hb); (try clear hb2); (try clear hk); (try clear hi); obtain ⟨Ao33, co33, eo33⟩ := Kd.R_slice HO406.out; subst eo33; have hcz34_0 : w32.cell? ⟨gb402, 0, none⟩ = some (.int .i64 t395) := (blk_cell BK402.out 0).trans rfl; have hcz34_1 : w32.cell? ⟨gb402, 1, none⟩ = some (.int .i64 t396) := (blk_cell BK402.out 1).trans rfl; have hcz34_2 : w32.cell? ⟨gb402, 2, none⟩ = some (.slice Ao11 t397.length co11) := (blk_cell BK402.out 2).trans rfl; have hfz34_0 := blk_frozen BK402.out 0; have hfz34_1 := blk_frozen BK402.out 1; have hfz34_2 := blk_frozen BK402.out 2) | (go_at_call 30; (with_reducible refine (impl_IsWay.calls k t395 t396 _ _ t397 _ _ t404 true _ ?side1 ?side2 ?side3 ?side4 A23.out).mono ?_); (case side1 => repeat (first | exact (Kd.Q_reads' HO399.out).2.2 | (with_reducible first | refine c1_ ?_ _ | refine c2_ ?_ _ | refine c3_ ?_))); (case side2 => exact (Kd.Q_reads' HO399.out).2.1); (case side3 => repeat (first | exact (Kd.R_reads' HO406.out).2.2 | (with_reducible first | refine c1_ ?_ _ | refine c2_ ?_ _ | refine c3_ ?_))); (case side4 => exact (Kd.R_reads' HO406.out).2.1); rintro e w35 ⟨rfl, hb⟩; have n0_ := am_ (Kd.Q_below (by (with_reducible repeat (first | apply q1_ | apply q2_ | apply q3_)); exact HO399.out) hb); have n1_ := am_ (Kd.R_below (by (with_reducible repeat (first | apply r1_ | apply r2_ | apply r3_)); exact HO406.out) hb); have n2_ := am_ (blk_below (g := gb402) (o := .cells #[.int .i64 t395, .int .i64 t396, .slice Ao11 t397.length co11] 37 (0, 0)) (by (with_reducible repeat (first | refine k1_ ?_ _ | refine k2_ ?_ | refine k3_ ?_ _)); exact BK402.out) hb); have n3_ := am_ (below_step (by repeat (first | (with_reducible first | exact HB.out | apply b1_ | apply b2_ | apply b3_ | refine below_set ?_ GE402.out) | exact HB.out)) hb); replace HO399 := n0_; replace HO406 := n1_; replace BK402 := n2_; replace HB := n3_; clear n0_ n1_ n2_ n3_; (try clear hb); (try clear hb2); (try clear hk); (try clear hi); have p409 : 0 ≤ (0 : Int) := (by omega); have q409 : 0 < (t404.length : Int) := of_decide_eq_true (by first | (with_reducible assumption) | assumption); obtain ⟨ad409, e409, hx409_0⟩ := Kd.at_int (Kd.R_reads' HO406.out).2.2 0 p409 q409; cases e409; have qi409 : (0 < t404.length) = True := eq_true (by omega); (try rw [show ((0 : Int)).toNat = 0 from rfl] at hx409_0); (try rw [Addr.add_zero'] at hx409_0); replace p409 := eq_true p409; replace q409 := eq_true q409; have p410 : 0 ≤ (t403 : Int) := of_decide_eq_true (by first | (with_reducible assumption) | assumption); have q410 : t403 < (t404.length : Int) := of_decide_eq_true (by first | (with_reducible assumption) | assumption); obtain ⟨ad410, e410, hx410_0⟩ := Kd.at_int (Kd.R_reads' HO406.out).2.2 t403 p410 q410; obtain rfl : ad409 = ad410 := (by injection e410); replace p410 := eq_true p410; replace q410 := eq_true q410; have hcz36_0 : w35.cell? ⟨gb402, 0, none⟩ = some (.int .i64 t395) := (blk_cell BK402.out 0).trans rfl; have hcz36_1 : w35.cell? ⟨gb402, 1, none⟩ = some (.int .i64 t396) := (blk_cell BK402.out 1).trans rfl; have hcz36_2 : w35.cell? ⟨gb402, 2, none⟩ = some (.slice Ao11 t397.length co11) := (blk_cell BK402.out 2).trans rfl; have hfz36_0 := blk_frozen BK402.out 0; have hfz36_1 := blk_frozen BK402.out 1; have hfz36_2 := blk_frozen BK402.out 2) | (go_at_call 31; (with_reducible refine (impl_Apart.calls k t395 t396 _ _ t397 t400 t401 t411 _ ?side1 ?side2 A30.out).mono ?_); (case side1 => repeat (first | exact (Kd.Q_reads' HO399.out).2.2 | (with_reducible first | refine c1_ ?_ _ | refine c2_ ?_ _ | refine c3_ ?_))); (case side2 => exact (Kd.Q_reads' HO399.out).2.1); rintro e w37 ⟨rfl, hb⟩; have n0_ := am_ (Kd.Q_below (by (with_reducible repeat (first | apply q1_ | apply q2_ | apply q3_)); exact HO399.out) hb); have n1_ := am_ (Kd.R_below (by (with_reducible repeat (first | apply r1_ | apply r2_ | apply r3_)); exact HO406.out) hb); have n2_ := am_ (blk_below (g := gb402) (o := .cells #[.int .i64 t395, .int .i64 t396, .slice Ao11 t397.length co11] 37 (0, 0)) (by (with_reducible repeat (first | refine k1_ ?_ _ | refine k2_ ?_ | refine k3_ ?_ _)); exact BK402.out) hb); have n3_ := am_ (below_step (by repeat (first | (with_reducible first | exact HB.out | apply b1_ | apply b2_ | apply b3_ | refine below_set ?_ GE402.out) | exact HB.out)) hb); replace HO399 := n0_; replace HO406 := n1_; replace BK402 := n2_; replace HB := n3_; clear n0_ n1_ n2_ n3_; (try clear hb); (try clear hb2); (try clear hk); (try clear hi)))
  go_meet
  case rel => exact ⟨_, (decide (t403 < t411)), (by first | rfl | (simp; done) | (simp [*]; done)), H', ⟨by first | omega | exact Nat.le_refl _⟩, ⟨by (with_reducible repeat (first | apply r1_ | apply r2_ | apply r3_)); exact Kd.R_mono HO406.out (fun _ hk => hk.2)⟩, ⟨by (with_reducible repeat (first | apply q1_ | apply q2_ | apply q3_)); exact Kd.Q_mono HO399.out (fun _ hk => hk.2)⟩, ⟨by (with_reducible repeat (first | refine k1_ ?_ _ | refine k2_ ?_ | refine k3_ ?_ _)); exact BK402.out⟩, ⟨by repeat (first | (with_reducible first | exact HB.out | apply b1_ | apply b2_ | apply b3_ | refine below_set ?_ GE402.out) | exact HB.out)⟩⟩
 case rest => as_aux_lemma =>
  clear HC7
  try clear c1
  try clear c2
  try clear p2
  try clear c3
  try clear p4
  try clear q4
  try clear hx4
  try clear qi4
  try clear p6
  try clear c9
  try clear c16
  try clear c16b0
  try clear c16b1
  try clear c17
  try clear c17b0
  try clear c17b1
  try clear c17b2
  try clear c21
  try clear c21b0
  try clear c22
  try clear c22b0
  try clear c22b1
  try clear c24
  try clear c25
  try clear c25b0
  try clear c25b1
  try clear c26
  try clear c26b0
  try clear c26b1
  try clear c27
  try clear c27b0
  try clear c28
  try clear c28b0
  try clear c29
  try clear c29b0
  try clear c29b1
  try clear p40
  try clear q40
  try clear hx40
  try clear qi40
  try clear p41
  try clear q41
  try clear hx41
  try clear hcz10_0
  try clear hcz10_1
  try clear hcz10_2
  try clear hcz13_0
  try clear hcz13_1
  try clear hcz13_2
  try clear hcz18_0
  try clear hcz18_1
  try clear hcz18_2
  try clear hcz31_0
  try clear hcz31_1
  try clear hcz31_2
  try clear hcz34_0
  try clear hcz34_1
  try clear hcz34_2
  try clear hcz36_0
  try clear hcz36_1
  try clear hcz36_2
  try clear hcz38_0
  try clear hcz38_1
  try clear hcz38_2
  try clear hcz41_0
  try clear hcz41_1
  try clear hcz41_2
  try clear hcz43_0
  try clear hcz43_1
  try clear hcz43_2
  try clear hcz46_0
  try clear hcz46_1
  try clear hcz46_2
  try clear hcz48_0
  try clear hcz48_1
  try clear hcz48_2
  try clear hcz51_0
  try clear hcz51_1
  try clear hcz51_2
  try clear hcz53_0
  try clear hcz53_1
  try clear hcz53_2
  try clear hcz56_0
  try clear hcz56_1
  try clear hcz56_2
  try clear hcz59_0
  try clear hcz59_1
  try clear hcz59_2
  try clear hfz10_0
  try clear hfz10_1
  try clear hfz10_2
  try clear hfz13_0
  try clear hfz13_1
  try clear hfz13_2
  try clear hfz18_0
  try clear hfz18_1
  try clear hfz18_2
  try clear hfz31_0
  try clear hfz31_1
  try clear hfz31_2
  try clear hfz34_0
  try clear hfz34_1
  try clear hfz34_2
  try clear hfz36_0
  try clear hfz36_1
  try clear hfz36_2
  try clear hfz38_0
  try clear hfz38_1
  try clear hfz38_2
  try clear hfz41_0
  try clear hfz41_1
  try clear hfz41_2
  try clear hfz43_0
  try clear hfz43_1
  try clear hfz43_2
  try clear hfz46_0
  try clear hfz46_1
  try clear hfz46_2
  try clear hfz48_0
  try clear hfz48_1
  try clear hfz48_2
  try clear hfz51_0
  try clear hfz51_1
  try clear hfz51_2
  try clear hfz53_0
  try clear hfz53_1
  try clear hfz53_2
  try clear hfz56_0
  try clear hfz56_1
  try clear hfz56_2
  try clear hfz59_0
  try clear hfz59_1
  try clear hfz59_2
  try clear hx409_0
  try clear hx410_0
  try clear p409
  try clear p410
  try clear q409
  try clear q410
  obtain ⟨kq, x88_6, rfl, HA, HJ6, HO_7, HO_403002, BK402, HB⟩ := hcut
  cases kq with
  | zero => exact absurd HA.out (by simp [laws_FnWays.j0])
  | succ kj6 =>
   have H := HA.out
   clear HA
   simp only [laws_FnWays.j0] at H
   by_cases c61 : x88_6 = true
   ·subst c61
    have H1 : (some false) = some r := by rw [if_pos rfl] at H; exact H
    clear H
    have H := H1
    clear H1
    obtain rfl := Option.some.inj H
    go_wp2
    go_ret
    exact ⟨by first | rfl | (simp [errW_none, errW_some] <;> rfl) | (simp [*, errW_none, errW_some] <;> rfl), by repeat (first | (with_reducible first | exact HB.out | apply b1_ | apply b2_ | apply b3_ | refine below_set ?_ GE402.out) | exact HB.out)⟩
   replace c61 := Bool.eq_false_iff.mpr c61
   subst c61
   have H1 : (laws_FnWays.l0 kj6 l0 t400 t401 t403 t404 0 t395 t396 t397) = some r := by rw [if_neg (show ¬ (false = true) by decide)] at H; exact H
   clear H
   have H := H1
   clear H1
   have H' := am_ H
   clear H
   go_wp2
   go_loopg [8] kj6 (fun kq v8 w' => ∃ (x8_2 : Int), v8 = .int .i64 x8_2 ∧ Aside0 (laws_FnWays.l0 kq l0 t400 t401 t403 t404 x8_2 t395 t396 t397 = some r) ∧ Aside0 (kq ≤ kj6) ∧ Aside0 (Kd.R (Kd.int .i64) 3 w' w.heap.size (fun k_ => some k_ ≠ ((.slice Ao11 t397.length co11) : Value).ownBlock) v405 t404) ∧ Aside0 (Kd.Q (Kd.int .i64) 3 w' w.heap.size (fun k_ => some k_ ≠ (v405 : Value).ownBlock) (.slice Ao11 t397.length co11) t397) ∧ Aside0 (w'.heap[gb402]? = some (.cells #[.int .i64 t395, .int .i64 t396, (.slice Ao11 t397.length co11)] 37 (0, 0))) ∧ Aside0 (Below w.heap.size w w'))
   case atStart => exact ⟨(0), (by first | rfl | (simp; done) | (simp [*]; done)), H', ⟨Nat.le_refl _⟩, ⟨by (with_reducible repeat (first | apply r1_ | apply r2_ | apply r3_)); exact HO_7.out⟩, ⟨by (with_reducible repeat (first | apply q1_ | apply q2_ | apply q3_)); exact HO_403002.out⟩, ⟨by (with_reducible repeat (first | refine k1_ ?_ _ | refine k2_ ?_ | refine k3_ ?_ _)); exact BK402.out⟩, ⟨by repeat (first | (with_reducible first | exact HB.out | apply b1_ | apply b2_ | apply b3_ | refine below_set ?_ GE402.out) | exact HB.out)⟩⟩
   case round => as_aux_lemma =>
    clear H'
    try clear c1
    try clear c2
    try clear p2
    try clear c3
    try clear p4
    try clear q4
    try clear hx4
    try clear qi4
    try clear c6
    try clear p6
    try clear c9
    try clear c16
    try clear c16b0
    try clear c16b1
    try clear c17
    try clear c17b0
    try clear c17b1
    try clear c17b2
    try clear c21
    try clear c21b0
    try clear c22
    try clear c22b0
    try clear c22b1
    try clear c24
    try clear c25
    try clear c25b0
    try clear c25b1
    try clear c26
    try clear c26b0
    try clear c26b1
    try clear c27
    try clear c27b0
    try clear c28
    try clear c28b0
    try clear c29
    try clear c29b0
    try clear c29b1
    try clear p40
    try clear q40
    try clear hx40
    try clear qi40
    try clear p41
    try clear q41
    try clear hx41
    try clear c61
    try clear hcz10_0
    try clear hcz10_1
    try clear hcz10_2
    try clear hcz13_0
    try clear hcz13_1
    try clear hcz13_2
    try clear hcz18_0
    try clear hcz18_1
    try clear hcz18_2
    try clear hcz31_0
    try clear hcz31_1
    try clear hcz31_2
    try clear hcz34_0
    try clear hcz34_1
    try clear hcz34_2
    try clear hcz36_0
    try clear hcz36_1
    try clear hcz36_2
    try clear hcz38_0
    try clear hcz38_1
    try clear hcz38_2
    try clear hcz41_0
    try clear hcz41_1
    try clear hcz41_2
    try clear hcz43_0
    try clear hcz43_1
    try clear hcz43_2
    try clear hcz46_0
    try clear hcz46_1
    try clear hcz46_2
    try clear hcz48_0
    try clear hcz48_1
    try clear hcz48_2
    try clear hcz51_0
    try clear hcz51_1
    try clear hcz51_2
    try clear hcz53_0
    try clear hcz53_1
    try clear hcz53_2
    try clear hcz56_0
    try clear hcz56_1
    try clear hcz56_2
    try clear hcz59_0
    try clear hcz59_1
    try clear hcz59_2
    try clear hfz10_0
    try clear hfz10_1
    try clear hfz10_2
    try clear hfz13_0
    try clear hfz13_1
    try clear hfz13_2
    try clear hfz18_0
    try clear hfz18_1
    try clear hfz18_2
    try clear hfz31_0
    try clear hfz31_1
    try clear hfz31_2
    try clear hfz34_0
    try clear hfz34_1
    try clear hfz34_2
    try clear hfz36_0
    try clear hfz36_1
    try clear hfz36_2
    try clear hfz38_0
    try clear hfz38_1
    try clear hfz38_2
    try clear hfz41_0
    try clear hfz41_1
    try clear hfz41_2
    try clear hfz43_0
    try clear hfz43_1
    try clear hfz43_2
    try clear hfz46_0
    try clear hfz46_1
    try clear hfz46_2
    try clear hfz48_0
    try clear hfz48_1
    try clear hfz48_2
    try clear hfz51_0
    try clear hfz51_1
    try clear hfz51_2
    try clear hfz53_0
    try clear hfz53_1
    try clear hfz53_2
    try clear hfz56_0
    try clear hfz56_1
    try clear hfz56_2
    try clear hfz59_0
    try clear hfz59_1
    try clear hfz59_2
    try clear hx409_0
    try clear hx410_0
    try clear p2
    try clear p4
    try clear p40
    try clear p409
    try clear p41
    try clear p410
    try clear p6
    try clear q4
    try clear q40
    try clear q409
    try clear q41
    try clear q410
    obtain ⟨x8_2, rfl, HA, HK2, HO_7, HO_403002, BK402, HB⟩ := hrel
    cases gk with
    | zero => exact absurd HA.out (by simp [laws_FnWays.l0])
    | succ k2 =>
     have H := HA.out
     clear HA
     simp only [laws_FnWays.l0] at H
     by_cases c62 : x8_2 < (t404.length : Int)
     ·rw [if_pos c62] at H
      have c62b0 : decide (x8_2 < (t404.length : Int)) = true := decide_eq_true c62
      clear c62
      by_cases c63 : 0 ≤ x8_2
      rotate_left
      ·rw [if_neg c63] at H
       exact absurd H (by simp)
      rw [if_pos c63] at H
      have c63b0 : decide (0 ≤ x8_2) = true := decide_eq_true c63
      clear c63
      replace H := Option.bind_eq_some_iff.mp H
      obtain ⟨t413, A640, H⟩ := H
      replace H : (if t413 = (wrap64 (t403 - x8_2)) then ((impl_WayTo.f k2 t395 t396 t397 (rd t404 x8_2) t401).bind fun t415 => (if x8_2 ≤ (t404.length : Int) then ((laws_sameInts.f k2 t415 (t404.drop (x8_2 : Int).toNat)).bind fun t422 => (if t422 = true then (laws_FnWays.l0 k2 l0 t400 t401 t403 t404 (wrap64 (x8_2 + 1)) t395 t396 t397) else (some false))) else (none))) else (some false)) = some r := H
      have A64 := am_ A640
      clear A640
      by_cases c65 : t413 = (wrap64 (t403 - x8_2))
      rotate_left
      ·rw [if_neg c65] at H
       have c65b0 : (t413 == (wrap64 (t403 - x8_2))) = false := beq_eq_false_iff_ne.mpr c65
       have c65b1 : (t413 != (wrap64 (t403 - x8_2))) = true := bne_iff_ne.mpr c65
       obtain rfl := Option.some.inj H
       obtain ⟨Ao83, co83, eo83⟩ := Kd.R_slice HO_7.out
       subst eo83
       try go_wp2
       have n0_ := am_ (r3_ HO_7.out)
       have n1_ := am_ (q3_ HO_403002.out)
       have n2_ := am_ (k2_ BK402.out)
       have n3_ := am_ (b3_ HB.out)
       replace HO_7 := n0_
       replace HO_403002 := n1_
       replace BK402 := n2_
       replace HB := n3_
       clear n0_ n1_ n2_ n3_
       have p412 : 0 ≤ (x8_2 : Int) := of_decide_eq_true (by first | (with_reducible assumption) | assumption)
       have q412 : x8_2 < (t404.length : Int) := of_decide_eq_true (by first | (with_reducible assumption) | assumption)
       obtain ⟨ad412, e412, hx412_0⟩ := Kd.at_int (Kd.R_reads' HO_7.out).2.2 x8_2 p412 q412
       cases e412
       replace p412 := eq_true p412
       replace q412 := eq_true q412
       refine start_ (n := 25) (S := fun w' => w'.cell? ⟨gb402, 0, none⟩ = some (.int .i64 t395) ∧ w'.cell? ⟨gb402, 1, none⟩ = some (.int .i64 t396) ∧ w'.cell? ⟨gb402, 2, none⟩ = some (.slice Ao11 t397.length co11) ∧ w'.cell? (ad412.add (x8_2).toNat) = some (.int .i64 (rd t404 x8_2))) (ds := []) (bz 25 0) (by kernel_rfl) rfl rfl ⟨(blk_cell BK402.out 0).trans rfl, (blk_cell BK402.out 1).trans rfl, (blk_cell BK402.out 2).trans rfl, hx412_0⟩ (fun hHeld => ?_); refine with_tabW laws_FnWays.tab11 laws_FnWays.bits11 (fun HT_ HW_ => ?_)
       generalize wr.drew = w84 at HO_7 HO_403002 BK402 HB hx412_0 hHeld ⊢
       refine pu_ 1 (some 96) ?_ (bz 25 2) rfl rfl (any_of HT_.out (by kernel_rfl)) (fun _ _ _ h => h) (Or.inl ⟨by rfl, ?_⟩) ?_ ?_ ?_; rotate_left; (intro w'; go_simp; with_reducible rfl); rotate_left; (simp only [Act.put, ls1, ls2, ls3, i64_w, i32_w]; rfl)
       refine pu_ 2 (some 97) ?_ (bz 25 6) rfl rfl (any_of HT_.out (by kernel_rfl)) (fun _ _ _ h => h) (Or.inl ⟨by rfl, ?_⟩) ?_ ?_ ?_; rotate_left; (intro w'; go_simp; with_reducible rfl); rotate_left; (simp only [Act.put, ls1, ls2, ls3, i64_w, i32_w]; rfl)
       refine pu_ 3 (some 98) ?_ (bz 25 14) rfl rfl (any_of HT_.out (by kernel_rfl)) (fun _ _ _ h => h) (Or.inl ⟨by rfl, ?_⟩) ?_ ?_ ?_; rotate_left; (intro w'; go_simp; with_reducible rfl); rotate_left; (simp only [Act.put, ls1, ls2, ls3, i64_w, i32_w]; rfl)
       refine pu_ 5 (some 100) ?_ (bz 25 46) rfl rfl (any_of HT_.out (by kernel_rfl)) (fun _ _ _ h => h) (Or.inl ⟨by rfl, ?_⟩) ?_ ?_ ?_; rotate_left; (intro w'; go_simp; with_reducible rfl); rotate_left; (simp only [Act.put, ls1, ls2, ls3, i64_w, i32_w]; rfl)
       refine pu_ 7 (some 102) ?_ (bz 25 174) rfl rfl (any_of HT_.out (by kernel_rfl)) (fun _ _ _ h => h) (Or.inl ⟨by rfl, ?_⟩) ?_ ?_ ?_; rotate_left; (intro w'; go_simp; with_reducible rfl); rotate_left; (simp only [Act.put, ls1, ls2, ls3, i64_w, i32_w]; rfl)
       refine pu_ 8 (some 103) ?_ (bz 25 430) rfl rfl (any_of HT_.out (by kernel_rfl)) (fun _ _ _ h => h) (Or.inl ⟨by rfl, ?_⟩) ?_ ?_ ?_; rotate_left; (intro w'; go_simp; with_reducible rfl); rotate_left; (simp only [Act.put, ls1, ls2, ls3, i64_w, i32_w]; rfl)
       refine pu_ 9 (some 104) ?_ (bz 25 942) rfl rfl (any_of HT_.out (by kernel_rfl)) (fun _ _ _ h => h) (Or.inl ⟨by rfl, ?_⟩) ?_ ?_ ?_; rotate_left; (intro w'; go_simp; with_reducible rfl); rotate_left; (simp only [Act.put, ls1, ls2, ls3, i64_w, i32_w]; rfl)
       refine take_ (i := 0) (N := some 95) (v := ?_) (a' := ?_) (bz 25 943) rfl rfl (take_ofW HT_.out HW_.out (by kernel_rfl)) (fun _ _ _ h => h) (Or.inl ⟨by rfl, ?_⟩) hHeld ?_ ?_; rotate_left; (rintro w' ⟨s0, s1, s2, s3⟩; go_simp; with_reducible rfl); rotate_left; (simp only [Act.put, ls1, ls2, ls3, i64_w, i32_w]; rfl)
       refine take_ (i := 4) (N := some 99) (v := ?_) (a' := ?_) (bz 25 959) rfl rfl (take_ofW HT_.out HW_.out (by kernel_rfl)) (fun _ _ _ h => h) (Or.inl ⟨by rfl, ?_⟩) hHeld ?_ ?_; rotate_left; (rintro w' ⟨s0, s1, s2, s3⟩; go_simp; with_reducible rfl); rotate_left; (simp only [Act.put, ls1, ls2, ls3, i64_w, i32_w]; rfl)
       refine one_ (i := 6) (N := some 101) (bz 25 1023) rfl rfl (one_of HT_.out (by kernel_rfl)) (by decide) (fun K hK => ?_)
       refine goes_ Try.func28 (by kernel_rfl) rfl #[.agg #[.int .i64 t395, .int .i64 t396, .slice Ao11 t397.length co11], .int .i64 (rd t404 x8_2), .int .i64 t401] (by rfl) rfl rfl (by (try simp only [mt_, mc_, mn_]); first | done | rfl | (simp only [ld_, lt_]; rfl)) ?_
       with_reducible refine (impl_Days.calls k2 t395 t396 _ _ t397 (rd t404 x8_2) t401 t413 _ ?side1 ?side2 A64.out).mono ?_
       (case side1 => repeat (first | exact (Kd.Q_reads' HO_403002.out).2.2 | (with_reducible first | refine c1_ ?_ _ | refine c2_ ?_ _ | refine c3_ ?_)))
       (case side2 => exact (Kd.Q_reads' HO_403002.out).2.1)
       rintro e w85 ⟨rfl, hb⟩
       have HS3_ := (hb.cell (World.block_lt_of_cell? _ _ (hHeld.2.2.2))).trans (hHeld.2.2.2)
       refine ⟨_, rfl, ?_⟩
       have n0_ := am_ (Kd.R_below (by (with_reducible repeat (first | apply r1_ | apply r2_ | apply r3_)); exact HO_7.out) hb)
       have n1_ := am_ (Kd.Q_below (by (with_reducible repeat (first | apply q1_ | apply q2_ | apply q3_)); exact HO_403002.out) hb)
       have n2_ := am_ (blk_below (g := gb402) (o := .cells #[.int .i64 t395, .int .i64 t396, .slice Ao11 t397.length co11] 37 (0, 0)) (by (with_reducible repeat (first | refine k1_ ?_ _ | refine k2_ ?_ | refine k3_ ?_ _)); exact BK402.out) hb)
       have n3_ := am_ (below_step (by repeat (first | (with_reducible first | exact HB.out | apply b1_ | apply b2_ | apply b3_ | refine below_set ?_ GE402.out) | exact HB.out)) hb)
       replace HO_7 := n0_
       replace HO_403002 := n1_
       replace BK402 := n2_
       replace HB := n3_
       clear n0_ n1_ n2_ n3_
       (try clear hb)
       (try clear hb2)
       (try clear hk)
       (try clear hi)
       refine hK.out _ _ ⟨(blk_cell BK402.out 0).trans rfl, (blk_cell BK402.out 1).trans rfl, (blk_cell BK402.out 2).trans rfl, HS3_⟩ (fun hHeld => ?_)
       clear hK K
       refine norm_ (a' := ?_) ?_ ?_
       rotate_left
       ·show Act.put _ (some 101) _ = _
        simp only [Act.put, ls1, ls2, ls3, i64_w, i32_w]
        rfl
       refine pu_ 10 (some 105) ?_ (bz 25 2047) rfl rfl (any_of HT_.out (by kernel_rfl)) (fun _ _ _ h => h) (Or.inl ⟨by rfl, ?_⟩) ?_ ?_ ?_; rotate_left; (intro w'; go_simp; with_reducible rfl); rotate_left; (simp only [Act.put, ls1, ls2, ls3, i64_w, i32_w]; rfl)
       refine pu_ 11 (some 106) ?_ (bz 25 4095) rfl rfl (any_of HT_.out (by kernel_rfl)) (fun _ _ _ h => h) (Or.inl ⟨by rfl, ?_⟩) ?_ ?_ ?_; rotate_left; (intro w'; go_simp; with_reducible rfl); rotate_left; (simp only [Act.put, ls1, ls2, ls3, i64_w, i32_w]; rfl)
       refine pu_ 12 (some 107) undef (bz 25 8191) rfl rfl (any_of HT_.out (by kernel_rfl)) (fun _ _ _ h => h) (Or.inr ⟨by rfl, rfl⟩) ?_ ?_ ?_
       rotate_left
       ·simp only [Act.put, ls1, ls2, ls3, i64_w, i32_w]
        rfl
       refine pu_ 13 (some 108) undef (bz 25 16383) rfl rfl (any_of HT_.out (by kernel_rfl)) (fun _ _ _ h => h) (Or.inr ⟨by rfl, rfl⟩) ?_ ?_ ?_
       rotate_left
       ·simp only [Act.put, ls1, ls2, ls3, i64_w, i32_w]
        rfl
       refine pu_ 14 (some 109) undef (bz 25 32767) rfl rfl (any_of HT_.out (by kernel_rfl)) (fun _ _ _ h => h) (Or.inr ⟨by rfl, rfl⟩) ?_ ?_ ?_
       rotate_left
       ·simp only [Act.put, ls1, ls2, ls3, i64_w, i32_w]
        rfl
       refine pu_ 15 (some 110) undef (bz 25 65535) rfl rfl (any_of HT_.out (by kernel_rfl)) (fun _ _ _ h => h) (Or.inr ⟨by rfl, rfl⟩) ?_ ?_ ?_
       rotate_left
       ·simp only [Act.put, ls1, ls2, ls3, i64_w, i32_w]
        rfl
       refine pu_ 16 (some 111) undef (bz 25 131071) rfl rfl (any_of HT_.out (by kernel_rfl)) (fun _ _ _ h => h) (Or.inr ⟨by rfl, rfl⟩) ?_ ?_ ?_
       rotate_left
       ·simp only [Act.put, ls1, ls2, ls3, i64_w, i32_w]
        rfl
       refine pu_ 17 (some 112) undef (bz 25 262143) rfl rfl (any_of HT_.out (by kernel_rfl)) (fun _ _ _ h => h) (Or.inr ⟨by rfl, rfl⟩) ?_ ?_ ?_
       rotate_left
       ·simp only [Act.put, ls1, ls2, ls3, i64_w, i32_w]
        rfl
       refine pu_ 18 (some 113) undef (bz 25 524287) rfl rfl (any_of HT_.out (by kernel_rfl)) (fun _ _ _ h => h) (Or.inr ⟨by rfl, rfl⟩) ?_ ?_ ?_
       rotate_left
       ·simp only [Act.put, ls1, ls2, ls3, i64_w, i32_w]
        rfl
       refine pu_ 19 (some 114) undef (bz 25 1048575) rfl rfl (any_of HT_.out (by kernel_rfl)) (fun _ _ _ h => h) (Or.inr ⟨by rfl, rfl⟩) ?_ ?_ ?_
       rotate_left
       ·simp only [Act.put, ls1, ls2, ls3, i64_w, i32_w]
        rfl
       refine pu_ 20 (some 115) undef (bz 25 2097151) rfl rfl (any_of HT_.out (by kernel_rfl)) (fun _ _ _ h => h) (Or.inr ⟨by rfl, rfl⟩) ?_ ?_ ?_
       rotate_left
       ·simp only [Act.put, ls1, ls2, ls3, i64_w, i32_w]
        rfl
       refine pu_ 21 (some 116) undef (bz 25 4194303) rfl rfl (any_of HT_.out (by kernel_rfl)) (fun _ _ _ h => h) (Or.inr ⟨by rfl, rfl⟩) ?_ ?_ ?_
       rotate_left
       ·simp only [Act.put, ls1, ls2, ls3, i64_w, i32_w]
        rfl
       refine pu_ 22 (some 117) undef (bz 25 8388607) rfl rfl (any_of HT_.out (by kernel_rfl)) (fun _ _ _ h => h) (Or.inr ⟨by rfl, rfl⟩) ?_ ?_ ?_
       rotate_left
       ·simp only [Act.put, ls1, ls2, ls3, i64_w, i32_w]
        rfl
       refine pu_ 23 (some 118) undef (bz 25 16777215) rfl rfl (any_of HT_.out (by kernel_rfl)) (fun _ _ _ h => h) (Or.inr ⟨by rfl, rfl⟩) ?_ ?_ ?_
       rotate_left
       ·simp only [Act.put, ls1, ls2, ls3, i64_w, i32_w]
        rfl
       refine pu_ 24 (some 119) ?_ (bz 25 33554431) rfl rfl (any_of HT_.out (by kernel_rfl)) (fun _ _ _ h => h) (Or.inl ⟨by rfl, ?_⟩) ?_ ?_ ?_; rotate_left; (intro w'; go_simp; with_reducible rfl); rotate_left; (simp only [Act.put, ls1, ls2, ls3, i64_w, i32_w]; rfl)
       refine done_ (done_of HT_.out (by kernel_rfl)) ?_
       try go_wp2
       go_ret
       exact ⟨by first | rfl | (simp [errW_none, errW_some] <;> rfl) | (simp [*, errW_none, errW_some] <;> rfl), by repeat (first | (with_reducible first | exact HB.out | apply b1_ | apply b2_ | apply b3_ | refine below_set ?_ GE402.out) | exact HB.out)⟩
      rw [if_pos c65] at H
      have c65b0 : (t413 == (wrap64 (t403 - x8_2))) = true := beq_iff_eq.mpr c65
      have c65b1 : (t413 != (wrap64 (t403 - x8_2))) = false := bne_eq_false_iff_eq.mpr c65
      clear c65
      replace H := Option.bind_eq_some_iff.mp H
      obtain ⟨t415, A660, H⟩ := H
      replace H : (if x8_2 ≤ (t404.length : Int) then ((laws_sameInts.f k2 t415 (t404.drop (x8_2 : Int).toNat)).bind fun t422 => (if t422 = true then (laws_FnWays.l0 k2 l0 t400 t401 t403 t404 (wrap64 (x8_2 + 1)) t395 t396 t397) else (some false))) else (none)) = some r := H
      have A66 := am_ A660
      clear A660
      have c67b0 := eq_true (of_decide_eq_true (by first | (with_reducible assumption) | assumption) : 0 ≤ x8_2)
      by_cases c68 : x8_2 ≤ (t404.length : Int)
      rotate_left
      ·rw [if_neg c68] at H
       exact absurd H (by simp)
      rw [if_pos c68] at H
      have c68b0 := eq_true c68
      have c68b1 : decide (x8_2 ≤ (t404.length : Int)) = true := decide_eq_true c68
      clear c68
      obtain ⟨y418, hy418⟩ : ∃ y_ : List Int, y_ = (t404.drop (x8_2 : Int).toNat) := ⟨_, rfl⟩
      replace H : ((laws_sameInts.f k2 t415 y418).bind fun t422 => (if t422 = true then (laws_FnWays.l0 k2 l0 t400 t401 t403 t404 (wrap64 (x8_2 + 1)) t395 t396 t397) else (some false))) = some r := by first | (rw [hy418]; with_reducible exact H) | (have H2_ := (Option.bind_some _ _).symm.trans H; rw [hy418]; with_reducible exact H2_) | (have H2_ := (Option.bind_some _ _).symm.trans H; with_reducible exact H2_) | with_reducible exact H | (rw [hy418]; exact H) | exact H
      have Ny418 := am_ hy418
      clear hy418
      replace H := Option.bind_eq_some_iff.mp H
      obtain ⟨t422, A690, H⟩ := H
      replace H : (if t422 = true then (laws_FnWays.l0 k2 l0 t400 t401 t403 t404 (wrap64 (x8_2 + 1)) t395 t396 t397) else (some false)) = some r := H
      have A69 := am_ A690
      clear A690
      by_cases c70 : t422 = true
      ·subst c70
       have H1 : (laws_FnWays.l0 k2 l0 t400 t401 t403 t404 (wrap64 (x8_2 + 1)) t395 t396 t397) = some r := by rw [if_pos rfl] at H; exact H
       clear H
       have H := H1
       clear H1
       have H' := am_ H
       clear H
       obtain ⟨Ao71, co71, eo71⟩ := Kd.R_slice HO_7.out
       subst eo71
       try go_wp2
       have n0_ := am_ (r3_ HO_7.out)
       have n1_ := am_ (q3_ HO_403002.out)
       have n2_ := am_ (k2_ BK402.out)
       have n3_ := am_ (b3_ HB.out)
       replace HO_7 := n0_
       replace HO_403002 := n1_
       replace BK402 := n2_
       replace HB := n3_
       clear n0_ n1_ n2_ n3_
       have p412 : 0 ≤ (x8_2 : Int) := of_decide_eq_true (by first | (with_reducible assumption) | assumption)
       have q412 : x8_2 < (t404.length : Int) := of_decide_eq_true (by first | (with_reducible assumption) | assumption)
       obtain ⟨ad412, e412, hx412_0⟩ := Kd.at_int (Kd.R_reads' HO_7.out).2.2 x8_2 p412 q412
       cases e412
       replace p412 := eq_true p412
       replace q412 := eq_true q412
       have p414 : 0 ≤ (x8_2 : Int) := of_decide_eq_true (by first | (with_reducible assumption) | assumption)
       have q414 : x8_2 < (t404.length : Int) := of_decide_eq_true (by first | (with_reducible assumption) | assumption)
       obtain ⟨ad414, e414, hx414_0⟩ := Kd.at_int (Kd.R_reads' HO_7.out).2.2 x8_2 p414 q414
       obtain rfl : ad412 = ad414 := (by injection e414)
       replace p414 := eq_true p414
       replace q414 := eq_true q414
       refine start_ (n := 25) (S := fun w' => w'.cell? ⟨gb402, 0, none⟩ = some (.int .i64 t395) ∧ w'.cell? ⟨gb402, 1, none⟩ = some (.int .i64 t396) ∧ w'.cell? ⟨gb402, 2, none⟩ = some (.slice Ao11 t397.length co11) ∧ w'.cell? (ad412.add (x8_2).toNat) = some (.int .i64 (rd t404 x8_2)) ∧ w'.cell? (ad412.add (x8_2).toNat) = some (.int .i64 (rd t404 x8_2))) (ds := []) (bz 25 0) (by kernel_rfl) rfl rfl ⟨(blk_cell BK402.out 0).trans rfl, (blk_cell BK402.out 1).trans rfl, (blk_cell BK402.out 2).trans rfl, hx412_0, hx414_0⟩ (fun hHeld => ?_); refine with_tabW laws_FnWays.tab11 laws_FnWays.bits11 (fun HT_ HW_ => ?_)
       generalize wr.drew = w72 at HO_7 HO_403002 BK402 HB hx412_0 hx414_0 hHeld ⊢
       refine pu_ 1 (some 96) ?_ (bz 25 2) rfl rfl (any_of HT_.out (by kernel_rfl)) (fun _ _ _ h => h) (Or.inl ⟨by rfl, ?_⟩) ?_ ?_ ?_; rotate_left; (intro w'; go_simp; with_reducible rfl); rotate_left; (simp only [Act.put, ls1, ls2, ls3, i64_w, i32_w]; rfl)
       refine pu_ 2 (some 97) ?_ (bz 25 6) rfl rfl (any_of HT_.out (by kernel_rfl)) (fun _ _ _ h => h) (Or.inl ⟨by rfl, ?_⟩) ?_ ?_ ?_; rotate_left; (intro w'; go_simp; with_reducible rfl); rotate_left; (simp only [Act.put, ls1, ls2, ls3, i64_w, i32_w]; rfl)
       refine pu_ 3 (some 98) ?_ (bz 25 14) rfl rfl (any_of HT_.out (by kernel_rfl)) (fun _ _ _ h => h) (Or.inl ⟨by rfl, ?_⟩) ?_ ?_ ?_; rotate_left; (intro w'; go_simp; with_reducible rfl); rotate_left; (simp only [Act.put, ls1, ls2, ls3, i64_w, i32_w]; rfl)
       refine pu_ 5 (some 100) ?_ (bz 25 46) rfl rfl (any_of HT_.out (by kernel_rfl)) (fun _ _ _ h => h) (Or.inl ⟨by rfl, ?_⟩) ?_ ?_ ?_; rotate_left; (intro w'; go_simp; with_reducible rfl); rotate_left; (simp only [Act.put, ls1, ls2, ls3, i64_w, i32_w]; rfl)
       refine pu_ 7 (some 102) ?_ (bz 25 174) rfl rfl (any_of HT_.out (by kernel_rfl)) (fun _ _ _ h => h) (Or.inl ⟨by rfl, ?_⟩) ?_ ?_ ?_; rotate_left; (intro w'; go_simp; with_reducible rfl); rotate_left; (simp only [Act.put, ls1, ls2, ls3, i64_w, i32_w]; rfl)
       refine pu_ 8 (some 103) ?_ (bz 25 430) rfl rfl (any_of HT_.out (by kernel_rfl)) (fun _ _ _ h => h) (Or.inl ⟨by rfl, ?_⟩) ?_ ?_ ?_; rotate_left; (intro w'; go_simp; with_reducible rfl); rotate_left; (simp only [Act.put, ls1, ls2, ls3, i64_w, i32_w]; rfl)
       refine pu_ 9 (some 104) ?_ (bz 25 942) rfl rfl (any_of HT_.out (by kernel_rfl)) (fun _ _ _ h => h) (Or.inl ⟨by rfl, ?_⟩) ?_ ?_ ?_; rotate_left; (intro w'; go_simp; with_reducible rfl); rotate_left; (simp only [Act.put, ls1, ls2, ls3, i64_w, i32_w]; rfl)
       refine take_ (i := 0) (N := some 95) (v := ?_) (a' := ?_) (bz 25 943) rfl rfl (take_ofW HT_.out HW_.out (by kernel_rfl)) (fun _ _ _ h => h) (Or.inl ⟨by rfl, ?_⟩) hHeld ?_ ?_; rotate_left; (rintro w' ⟨s0, s1, s2, s3, s4⟩; go_simp; with_reducible rfl); rotate_left; (simp only [Act.put, ls1, ls2, ls3, i64_w, i32_w]; rfl)
       refine take_ (i := 4) (N := some 99) (v := ?_) (a' := ?_) (bz 25 959) rfl rfl (take_ofW HT_.out HW_.out (by kernel_rfl)) (fun _ _ _ h => h) (Or.inl ⟨by rfl, ?_⟩) hHeld ?_ ?_; rotate_left; (rintro w' ⟨s0, s1, s2, s3, s4⟩; go_simp; with_reducible rfl); rotate_left; (simp only [Act.put, ls1, ls2, ls3, i64_w, i32_w]; rfl)
       refine one_ (i := 6) (N := some 101) (bz 25 1023) rfl rfl (one_of HT_.out (by kernel_rfl)) (by decide) (fun K hK => ?_)
       refine goes_ Try.func28 (by kernel_rfl) rfl #[.agg #[.int .i64 t395, .int .i64 t396, .slice Ao11 t397.length co11], .int .i64 (rd t404 x8_2), .int .i64 t401] (by rfl) rfl rfl (by (try simp only [mt_, mc_, mn_]); first | done | rfl | (simp only [ld_, lt_]; rfl)) ?_
       with_reducible refine (impl_Days.calls k2 t395 t396 _ _ t397 (rd t404 x8_2) t401 t413 _ ?side1 ?side2 A64.out).mono ?_
       (case side1 => repeat (first | exact (Kd.Q_reads' HO_403002.out).2.2 | (with_reducible first | refine c1_ ?_ _ | refine c2_ ?_ _ | refine c3_ ?_)))
       (case side2 => exact (Kd.Q_reads' HO_403002.out).2.1)
       rintro e w73 ⟨rfl, hb⟩
       have HS3_ := (hb.cell (World.block_lt_of_cell? _ _ (hHeld.2.2.2.1))).trans (hHeld.2.2.2.1)
       have HS4_ := (hb.cell (World.block_lt_of_cell? _ _ (hHeld.2.2.2.2))).trans (hHeld.2.2.2.2)
       refine ⟨_, rfl, ?_⟩
       have n0_ := am_ (Kd.R_below (by (with_reducible repeat (first | apply r1_ | apply r2_ | apply r3_)); exact HO_7.out) hb)
       have n1_ := am_ (Kd.Q_below (by (with_reducible repeat (first | apply q1_ | apply q2_ | apply q3_)); exact HO_403002.out) hb)
       have n2_ := am_ (blk_below (g := gb402) (o := .cells #[.int .i64 t395, .int .i64 t396, .slice Ao11 t397.length co11] 37 (0, 0)) (by (with_reducible repeat (first | refine k1_ ?_ _ | refine k2_ ?_ | refine k3_ ?_ _)); exact BK402.out) hb)
       have n3_ := am_ (below_step (by repeat (first | (with_reducible first | exact HB.out | apply b1_ | apply b2_ | apply b3_ | refine below_set ?_ GE402.out) | exact HB.out)) hb)
       replace HO_7 := n0_
       replace HO_403002 := n1_
       replace BK402 := n2_
       replace HB := n3_
       clear n0_ n1_ n2_ n3_
       (try clear hb)
       (try clear hb2)
       (try clear hk)
       (try clear hi)
       refine hK.out _ _ ⟨(blk_cell BK402.out 0).trans rfl, (blk_cell BK402.out 1).trans rfl, (blk_cell BK402.out 2).trans rfl, HS3_, HS4_⟩ (fun hHeld => ?_)
       clear hK K
       refine norm_ (a' := ?_) ?_ ?_
       rotate_left
       ·show Act.put _ (some 101) _ = _
        simp only [Act.put, ls1, ls2, ls3, i64_w, i32_w]
        rfl
       refine pu_ 10 (some 105) ?_ (bz 25 2047) rfl rfl (any_of HT_.out (by kernel_rfl)) (fun _ _ _ h => h) (Or.inl ⟨by rfl, ?_⟩) ?_ ?_ ?_; rotate_left; (intro w'; go_simp; with_reducible rfl); rotate_left; (simp only [Act.put, ls1, ls2, ls3, i64_w, i32_w]; rfl)
       refine pu_ 11 (some 106) ?_ (bz 25 4095) rfl rfl (any_of HT_.out (by kernel_rfl)) (fun _ _ _ h => h) (Or.inl ⟨by rfl, ?_⟩) ?_ ?_ ?_; rotate_left; (intro w'; go_simp; with_reducible rfl); rotate_left; (simp only [Act.put, ls1, ls2, ls3, i64_w, i32_w]; rfl)
       refine pu_ 13 (some 108) ?_ (bz 25 12287) rfl rfl (any_of HT_.out (by kernel_rfl)) (fun _ _ _ h => h) (Or.inl ⟨by rfl, ?_⟩) ?_ ?_ ?_; rotate_left; (intro w'; go_simp; with_reducible rfl); rotate_left; (simp only [Act.put, ls1, ls2, ls3, i64_w, i32_w]; rfl)
       refine pu_ 14 (some 109) ?_ (bz 25 28671) rfl rfl (any_of HT_.out (by kernel_rfl)) (fun _ _ _ h => h) (Or.inl ⟨by rfl, ?_⟩) ?_ ?_ ?_; rotate_left; (intro w'; go_simp; with_reducible rfl); rotate_left; (simp only [Act.put, ls1, ls2, ls3, i64_w, i32_w]; rfl)
       refine pu_ 15 (some 110) ?_ (bz 25 61439) rfl rfl (any_of HT_.out (by kernel_rfl)) (fun _ _ _ h => h) (Or.inl ⟨by rfl, ?_⟩) ?_ ?_ ?_; rotate_left; (intro w'; go_simp; with_reducible rfl); rotate_left; (simp only [Act.put, ls1, ls2, ls3, i64_w, i32_w]; rfl)
       refine pu_ 17 (some 112) ?_ (bz 25 192511) rfl rfl (any_of HT_.out (by kernel_rfl)) (fun _ _ _ h => h) (Or.inl ⟨by rfl, ?_⟩) ?_ ?_ ?_; rotate_left; (intro w'; go_simp; with_reducible rfl); rotate_left; (simp only [Act.put, ls1, ls2, ls3, i64_w, i32_w]; rfl)
       refine pu_ 19 (some 114) ?_ (bz 25 716799) rfl rfl (any_of HT_.out (by kernel_rfl)) (fun _ _ _ h => h) (Or.inl ⟨by rfl, ?_⟩) ?_ ?_ ?_; rotate_left; (intro w'; go_simp; with_reducible rfl); rotate_left; (simp only [Act.put, ls1, ls2, ls3, i64_w, i32_w]; rfl)
       refine pu_ 20 (some 115) ?_ (bz 25 1765375) rfl rfl (any_of HT_.out (by kernel_rfl)) (fun _ _ _ h => h) (Or.inl ⟨by rfl, ?_⟩) ?_ ?_ ?_; rotate_left; (intro w'; go_simp; with_reducible rfl); rotate_left; (simp only [Act.put, ls1, ls2, ls3, i64_w, i32_w]; rfl)
       refine pu_ 21 (some 116) ?_ (bz 25 3862527) rfl rfl (any_of HT_.out (by kernel_rfl)) (fun _ _ _ h => h) (Or.inl ⟨by rfl, ?_⟩) ?_ ?_ ?_; rotate_left; (intro w'; go_simp; with_reducible rfl); rotate_left; (simp only [Act.put, ls1, ls2, ls3, i64_w, i32_w]; rfl)
       refine take_ (i := 12) (N := some 107) (v := ?_) (a' := ?_) (bz 25 3866623) rfl rfl (take_ofW HT_.out HW_.out (by kernel_rfl)) (fun _ _ _ h => h) (Or.inl ⟨by rfl, ?_⟩) hHeld ?_ ?_; rotate_left; (rintro w' ⟨s0, s1, s2, s3, s4⟩; go_simp; with_reducible rfl); rotate_left; (simp only [Act.put, ls1, ls2, ls3, i64_w, i32_w]; rfl)
       refine take_ (i := 16) (N := some 111) (v := ?_) (a' := ?_) (bz 25 3932159) rfl rfl (take_ofW HT_.out HW_.out (by kernel_rfl)) (fun _ _ _ h => h) (Or.inl ⟨by rfl, ?_⟩) hHeld ?_ ?_; rotate_left; (rintro w' ⟨s0, s1, s2, s3, s4⟩; go_simp; with_reducible rfl); rotate_left; (simp only [Act.put, ls1, ls2, ls3, i64_w, i32_w]; rfl)
       refine one_ (i := 18) (N := some 113) (bz 25 4194303) rfl rfl (one_of HT_.out (by kernel_rfl)) (by decide) (fun K hK => ?_)
       refine goes_ Try.func29 (by kernel_rfl) rfl #[.agg #[.int .i64 t395, .int .i64 t396, .slice Ao11 t397.length co11], .int .i64 (rd t404 x8_2), .int .i64 t401] (by rfl) rfl rfl (by (try simp only [mt_, mc_, mn_]); first | done | rfl | (simp only [ld_, lt_]; rfl)) ?_
       with_reducible refine (impl_WayTo.calls k2 t395 t396 _ _ t397 (rd t404 x8_2) t401 t415 _ ?side1 ?side2 A66.out).mono ?_
       (case side1 => repeat (first | exact (Kd.Q_reads' HO_403002.out).2.2 | (with_reducible first | refine c1_ ?_ _ | refine c2_ ?_ _ | refine c3_ ?_)))
       (case side2 => exact (Kd.Q_reads' HO_403002.out).2.1)
       rintro e w74 ⟨v416, rfl, ho0, hb⟩
       have HS3_ := (hb.cell (World.block_lt_of_cell? _ _ (hHeld.2.2.2.1))).trans (hHeld.2.2.2.1)
       have HS4_ := (hb.cell (World.block_lt_of_cell? _ _ (hHeld.2.2.2.2))).trans (hHeld.2.2.2.2)
       refine ⟨_, rfl, ?_⟩
       have n0_ := am_ (Kd.R_elder' (by (with_reducible repeat (first | apply r1_ | apply r2_ | apply r3_)); exact HO_7.out) (Kd.R_base ho0) hb)
       have n1_ := am_ (Kd.Q_elder' (by (with_reducible repeat (first | apply q1_ | apply q2_ | apply q3_)); exact HO_403002.out) (Kd.R_base ho0) hb)
       have n2_ := am_ (Kd.R_lower (Kd.R_new' (Kd.R_new' ho0 (Kd.R_lt (by (with_reducible repeat (first | apply r1_ | apply r2_ | apply r3_)); exact HO_7.out))) (Kd.Q_lt (by (with_reducible repeat (first | apply q1_ | apply q2_ | apply q3_)); exact HO_403002.out))) (below_size (by repeat (first | (with_reducible first | exact HB.out | apply b1_ | apply b2_ | apply b3_ | refine below_set ?_ GE402.out) | exact HB.out))))
       have n3_ := am_ (blk_below (g := gb402) (o := .cells #[.int .i64 t395, .int .i64 t396, .slice Ao11 t397.length co11] 37 (0, 0)) (by (with_reducible repeat (first | refine k1_ ?_ _ | refine k2_ ?_ | refine k3_ ?_ _)); exact BK402.out) hb)
       have n4_ := am_ (below_step (by repeat (first | (with_reducible first | exact HB.out | apply b1_ | apply b2_ | apply b3_ | refine below_set ?_ GE402.out) | exact HB.out)) hb)
       replace HO_7 := n0_
       replace HO_403002 := n1_
       have HO417 := n2_
       replace BK402 := n3_
       replace HB := n4_
       clear n0_ n1_ n2_ n3_ n4_
       (try clear hb)
       (try clear hb2)
       (try clear hk)
       (try clear hi)
       (try clear ho0)
       have q75 : (x8_2 : Int) ≤ ((t404.length : Int) : Int) := of_decide_eq_true (by first | (with_reducible assumption) | assumption)
       obtain ⟨i075, hi075, _, hsz75, _⟩ := info_parts info3
       have hroom75 : t404.length ≤ co71 := (Kd.R_reads' HO_7.out).2.1
       have hC75 : Kd.C (Kd.int .i64) _ (some ad412) t404.length t404 := (Kd.R_reads' HO_7.out).2.2
       have q075 : (0 : Int) ≤ (x8_2 : Int) := of_decide_eq_true (by first | (with_reducible assumption) | assumption)
       have hcut75 := cut_from (P := Try.prog) 35 3 .i64 Try.underlying35 hi075 1 hsz75 (some ad412) t404.length co71 x8_2 q075 q75
       have hr75 := Kd.C_drop (m := (x8_2 : Int).toNat) (c := co71) hC75 (by omega) hroom75
       obtain ⟨A75, hA75⟩ : ∃ A1, A1 = (if co71 = (x8_2 : Int).toNat then (some ad412) else ((some ad412) : Option Addr).map (·.add ((x8_2 : Int).toNat * 1))) := ⟨_, rfl⟩
       obtain ⟨c75, hc75⟩ : ∃ c1, c1 = co71 - (x8_2 : Int).toNat := ⟨_, rfl⟩
       have hy75 : y418.length = t404.length - (x8_2 : Int).toNat := (by rw [Ny418.out, ld_] <;> omega)
       rw [show (t404).drop (x8_2 : Int).toNat = y418 from Ny418.out.symm] at hr75
       replace hr75 : Kd.C (Kd.int .i64) _ A75 y418.length y418 := (by rw [hA75]; exact hr75)
       rw [← hy75, ← hA75, ← hc75] at hcut75
       have HR421 := am_ hr75
       have HC421 := am_ (show y418.length ≤ c75 from by rw [hy75, hc75]; exact Nat.sub_le_sub_right hroom75 _)
       have KC75 := am_ hc75
       clear hr75 hC75 hroom75 hi075 hsz75 hc75
       have KY75 := am_ hy75
       have KA75 := am_ hA75
       clear hy75 hA75
       have KL75 := am_ (show (x8_2 : Int).toNat ≤ t404.length from by omega)
       replace q75 := eq_true q75
       obtain ⟨Ao76, co76, eo76⟩ := Kd.R_slice HO417.out
       (first | subst eo76 | (injection eo76 with f1_ f2_ f3_; have f4_ := f1_.symm; have f5_ := f3_.symm; clear f1_ f2_ f3_; subst f4_; subst f5_))
       refine hK.out _ _ ⟨(blk_cell BK402.out 0).trans rfl, (blk_cell BK402.out 1).trans rfl, (blk_cell BK402.out 2).trans rfl, HS3_, HS4_⟩ (fun hHeld => ?_)
       clear hK K
       refine norm_ (a' := ?_) ?_ ?_
       rotate_left
       ·show Act.put _ (some 113) _ = _
        simp only [Act.put, ls1, ls2, ls3, i64_w, i32_w]
        rfl
       rw [show Value.slice (if co71 = (x8_2 : Int).toNat then some ad412 else some (ad412.add (x8_2 : Int).toNat)) (t404.length - (x8_2 : Int).toNat) (co71 - (x8_2 : Int).toNat) = Value.slice A75 y418.length c75 from by rw [KA75.out, KY75.out, KC75.out]; simp only [Option.map_some, Nat.mul_one]]
       refine one_ (i := 22) (N := some 117) (bz 25 8388607) rfl rfl (one_of HT_.out (by kernel_rfl)) (by decide) (fun K hK => ?_)
       refine goes_ Try.func32 (by kernel_rfl) rfl #[.slice Ao76 t415.length co76, .slice A75 y418.length c75] (by rfl) rfl rfl (by (try simp only [mt_, mc_, mn_]); first | done | rfl | (simp only [ld_, lt_]; rfl)) ?_
       with_reducible refine (laws_sameInts.calls k2 _ _ t415 _ _ y418 true _ ?side1 ?side2 ?side3 ?side4 A69.out).mono ?_
       (case side1 => repeat (first | exact (Kd.R_reads' HO417.out).2.2 | (with_reducible first | refine c1_ ?_ _ | refine c2_ ?_ _ | refine c3_ ?_)))
       (case side2 => exact (Kd.R_reads' HO417.out).2.1)
       (case side3 => repeat (first | exact (by repeat (first | (with_reducible exact HR421.out) | (with_reducible first | refine c1_ ?_ _ | refine c2_ ?_ _ | refine c3_ ?_) | exact HR421.out)) | (with_reducible first | refine c1_ ?_ _ | refine c2_ ?_ _ | refine c3_ ?_)))
       (case side4 => exact HC421.out)
       rintro e w' ⟨rfl, ⟨nd, rfl⟩⟩
       refine ⟨_, rfl, ?_⟩
       refine hK.out _ _ ⟨(blk_cell BK402.out 0).trans rfl, (blk_cell BK402.out 1).trans rfl, (blk_cell BK402.out 2).trans rfl, hHeld.2.2.2.1, hHeld.2.2.2.2⟩ (fun hHeld => ?_)
       clear hK K
       refine norm_ (a' := ?_) ?_ ?_
       rotate_left
       ·show Act.put _ (some 117) _ = _
        simp only [Act.put, ls1, ls2, ls3, i64_w, i32_w]
        rfl
       refine pu_ 23 (some 118) ?_ (bz 25 16777215) rfl rfl (any_of HT_.out (by kernel_rfl)) (fun _ _ _ h => h) (Or.inl ⟨by rfl, ?_⟩) ?_ ?_ ?_; rotate_left; (intro w'; go_simp; with_reducible rfl); rotate_left; (simp only [Act.put, ls1, ls2, ls3, i64_w, i32_w]; rfl)
       refine pu_ 24 (some 119) ?_ (bz 25 33554431) rfl rfl (any_of HT_.out (by kernel_rfl)) (fun _ _ _ h => h) (Or.inl ⟨by rfl, ?_⟩) ?_ ?_ ?_; rotate_left; (intro w'; go_simp; with_reducible rfl); rotate_left; (simp only [Act.put, ls1, ls2, ls3, i64_w, i32_w]; rfl)
       refine done_ (done_of HT_.out (by kernel_rfl)) ?_
       try go_wp2
       go_roundg k2
       case measure => have := HJ6.out; have := HK2.out; omega
       case rel => exact ⟨(wrap64 (x8_2 + 1)), (by first | rfl | (simp; done) | (simp [*]; done)), H', ⟨by have := HJ6.out; have := HK2.out; omega⟩, ⟨by (with_reducible repeat (first | apply r1_ | apply r2_ | apply r3_)); exact Kd.R_mono HO_7.out (fun _ hk => hk.1)⟩, ⟨by (with_reducible repeat (first | apply q1_ | apply q2_ | apply q3_)); exact Kd.Q_mono HO_403002.out (fun _ hk => hk.1)⟩, ⟨by (with_reducible repeat (first | refine k1_ ?_ _ | refine k2_ ?_ | refine k3_ ?_ _)); exact BK402.out⟩, ⟨by repeat (first | (with_reducible first | exact HB.out | apply b1_ | apply b2_ | apply b3_ | refine below_set ?_ GE402.out) | exact HB.out)⟩⟩
      replace c70 := Bool.eq_false_iff.mpr c70
      subst c70
      have H1 : (some false) = some r := by rw [if_neg (show ¬ (false = true) by decide)] at H; exact H
      clear H
      have H := H1
      clear H1
      obtain rfl := Option.some.inj H
      obtain ⟨Ao77, co77, eo77⟩ := Kd.R_slice HO_7.out
      subst eo77
      try go_wp2
      have n0_ := am_ (r3_ HO_7.out)
      have n1_ := am_ (q3_ HO_403002.out)
      have n2_ := am_ (k2_ BK402.out)
      have n3_ := am_ (b3_ HB.out)
      replace HO_7 := n0_
      replace HO_403002 := n1_
      replace BK402 := n2_
      replace HB := n3_
      clear n0_ n1_ n2_ n3_
      have p412 : 0 ≤ (x8_2 : Int) := of_decide_eq_true (by first | (with_reducible assumption) | assumption)
      have q412 : x8_2 < (t404.length : Int) := of_decide_eq_true (by first | (with_reducible assumption) | assumption)
      obtain ⟨ad412, e412, hx412_0⟩ := Kd.at_int (Kd.R_reads' HO_7.out).2.2 x8_2 p412 q412
      cases e412
      replace p412 := eq_true p412
      replace q412 := eq_true q412
      have p414 : 0 ≤ (x8_2 : Int) := of_decide_eq_true (by first | (with_reducible assumption) | assumption)
      have q414 : x8_2 < (t404.length : Int) := of_decide_eq_true (by first | (with_reducible assumption) | assumption)
      obtain ⟨ad414, e414, hx414_0⟩ := Kd.at_int (Kd.R_reads' HO_7.out).2.2 x8_2 p414 q414
      obtain rfl : ad412 = ad414 := (by injection e414)
      replace p414 := eq_true p414
      replace q414 := eq_true q414
      refine start_ (n := 25) (S := fun w' => w'.cell? ⟨gb402, 0, none⟩ = some (.int .i64 t395) ∧ w'.cell? ⟨gb402, 1, none⟩ = some (.int .i64 t396) ∧ w'.cell? ⟨gb402, 2, none⟩ = some (.slice Ao11 t397.length co11) ∧ w'.cell? (ad412.add (x8_2).toNat) = some (.int .i64 (rd t404 x8_2)) ∧ w'.cell? (ad412.add (x8_2).toNat) = some (.int .i64 (rd t404 x8_2))) (ds := []) (bz 25 0) (by kernel_rfl) rfl rfl ⟨(blk_cell BK402.out 0).trans rfl, (blk_cell BK402.out 1).trans rfl, (blk_cell BK402.out 2).trans rfl, hx412_0, hx414_0⟩ (fun hHeld => ?_); refine with_tabW laws_FnWays.tab11 laws_FnWays.bits11 (fun HT_ HW_ => ?_)
      generalize wr.drew = w78 at HO_7 HO_403002 BK402 HB hx412_0 hx414_0 hHeld ⊢
      refine pu_ 1 (some 96) ?_ (bz 25 2) rfl rfl (any_of HT_.out (by kernel_rfl)) (fun _ _ _ h => h) (Or.inl ⟨by rfl, ?_⟩) ?_ ?_ ?_; rotate_left; (intro w'; go_simp; with_reducible rfl); rotate_left; (simp only [Act.put, ls1, ls2, ls3, i64_w, i32_w]; rfl)
      refine pu_ 2 (some 97) ?_ (bz 25 6) rfl rfl (any_of HT_.out (by kernel_rfl)) (fun _ _ _ h => h) (Or.inl ⟨by rfl, ?_⟩) ?_ ?_ ?_; rotate_left; (intro w'; go_simp; with_reducible rfl); rotate_left; (simp only [Act.put, ls1, ls2, ls3, i64_w, i32_w]; rfl)
      refine pu_ 3 (some 98) ?_ (bz 25 14) rfl rfl (any_of HT_.out (by kernel_rfl)) (fun _ _ _ h => h) (Or.inl ⟨by rfl, ?_⟩) ?_ ?_ ?_; rotate_left; (intro w'; go_simp; with_reducible rfl); rotate_left; (simp only [Act.put, ls1, ls2, ls3, i64_w, i32_w]; rfl)
      refine pu_ 5 (some 100) ?_ (bz 25 46) rfl rfl (any_of HT_.out (by kernel_rfl)) (fun _ _ _ h => h) (Or.inl ⟨by rfl, ?_⟩) ?_ ?_ ?_; rotate_left; (intro w'; go_simp; with_reducible rfl); rotate_left; (simp only [Act.put, ls1, ls2, ls3, i64_w, i32_w]; rfl)
      refine pu_ 7 (some 102) ?_ (bz 25 174) rfl rfl (any_of HT_.out (by kernel_rfl)) (fun _ _ _ h => h) (Or.inl ⟨by rfl, ?_⟩) ?_ ?_ ?_; rotate_left; (intro w'; go_simp; with_reducible rfl); rotate_left; (simp only [Act.put, ls1, ls2, ls3, i64_w, i32_w]; rfl)
      refine pu_ 8 (some 103) ?_ (bz 25 430) rfl rfl (any_of HT_.out (by kernel_rfl)) (fun _ _ _ h => h) (Or.inl ⟨by rfl, ?_⟩) ?_ ?_ ?_; rotate_left; (intro w'; go_simp; with_reducible rfl); rotate_left; (simp only [Act.put, ls1, ls2, ls3, i64_w, i32_w]; rfl)
      refine pu_ 9 (some 104) ?_ (bz 25 942) rfl rfl (any_of HT_.out (by kernel_rfl)) (fun _ _ _ h => h) (Or.inl ⟨by rfl, ?_⟩) ?_ ?_ ?_; rotate_left; (intro w'; go_simp; with_reducible rfl); rotate_left; (simp only [Act.put, ls1, ls2, ls3, i64_w, i32_w]; rfl)
      refine take_ (i := 0) (N := some 95) (v := ?_) (a' := ?_) (bz 25 943) rfl rfl (take_ofW HT_.out HW_.out (by kernel_rfl)) (fun _ _ _ h => h) (Or.inl ⟨by rfl, ?_⟩) hHeld ?_ ?_; rotate_left; (rintro w' ⟨s0, s1, s2, s3, s4⟩; go_simp; with_reducible rfl); rotate_left; (simp only [Act.put, ls1, ls2, ls3, i64_w, i32_w]; rfl)
      refine take_ (i := 4) (N := some 99) (v := ?_) (a' := ?_) (bz 25 959) rfl rfl (take_ofW HT_.out HW_.out (by kernel_rfl)) (fun _ _ _ h => h) (Or.inl ⟨by rfl, ?_⟩) hHeld ?_ ?_; rotate_left; (rintro w' ⟨s0, s1, s2, s3, s4⟩; go_simp; with_reducible rfl); rotate_left; (simp only [Act.put, ls1, ls2, ls3, i64_w, i32_w]; rfl)
      refine one_ (i := 6) (N := some 101) (bz 25 1023) rfl rfl (one_of HT_.out (by kernel_rfl)) (by decide) (fun K hK => ?_)
      refine goes_ Try.func28 (by kernel_rfl) rfl #[.agg #[.int .i64 t395, .int .i64 t396, .slice Ao11 t397.length co11], .int .i64 (rd t404 x8_2), .int .i64 t401] (by rfl) rfl rfl (by (try simp only [mt_, mc_, mn_]); first | done | rfl | (simp only [ld_, lt_]; rfl)) ?_
      with_reducible refine (impl_Days.calls k2 t395 t396 _ _ t397 (rd t404 x8_2) t401 t413 _ ?side1 ?side2 A64.out).mono ?_
      (case side1 => repeat (first | exact (Kd.Q_reads' HO_403002.out).2.2 | (with_reducible first | refine c1_ ?_ _ | refine c2_ ?_ _ | refine c3_ ?_)))
      (case side2 => exact (Kd.Q_reads' HO_403002.out).2.1)
      rintro e w79 ⟨rfl, hb⟩
      have HS3_ := (hb.cell (World.block_lt_of_cell? _ _ (hHeld.2.2.2.1))).trans (hHeld.2.2.2.1)
      have HS4_ := (hb.cell (World.block_lt_of_cell? _ _ (hHeld.2.2.2.2))).trans (hHeld.2.2.2.2)
      refine ⟨_, rfl, ?_⟩
      have n0_ := am_ (Kd.R_below (by (with_reducible repeat (first | apply r1_ | apply r2_ | apply r3_)); exact HO_7.out) hb)
      have n1_ := am_ (Kd.Q_below (by (with_reducible repeat (first | apply q1_ | apply q2_ | apply q3_)); exact HO_403002.out) hb)
      have n2_ := am_ (blk_below (g := gb402) (o := .cells #[.int .i64 t395, .int .i64 t396, .slice Ao11 t397.length co11] 37 (0, 0)) (by (with_reducible repeat (first | refine k1_ ?_ _ | refine k2_ ?_ | refine k3_ ?_ _)); exact BK402.out) hb)
      have n3_ := am_ (below_step (by repeat (first | (with_reducible first | exact HB.out | apply b1_ | apply b2_ | apply b3_ | refine below_set ?_ GE402.out) | exact HB.out)) hb)
      replace HO_7 := n0_
      replace HO_403002 := n1_
      replace BK402 := n2_
      replace HB := n3_
      clear n0_ n1_ n2_ n3_
      (try clear hb)
      (try clear hb2)
      (try clear hk)
      (try clear hi)
      refine hK.out _ _ ⟨(blk_cell BK402.out 0).trans rfl, (blk_cell BK402.out 1).trans rfl, (blk_cell BK402.out 2).trans rfl, HS3_, HS4_⟩ (fun hHeld => ?_)
      clear hK K
      refine norm_ (a' := ?_) ?_ ?_
      rotate_left
      ·show Act.put _ (some 101) _ = _
       simp only [Act.put, ls1, ls2, ls3, i64_w, i32_w]
       rfl
      refine pu_ 10 (some 105) ?_ (bz 25 2047) rfl rfl (any_of HT_.out (by kernel_rfl)) (fun _ _ _ h => h) (Or.inl ⟨by rfl, ?_⟩) ?_ ?_ ?_; rotate_left; (intro w'; go_simp; with_reducible rfl); rotate_left; (simp only [Act.put, ls1, ls2, ls3, i64_w, i32_w]; rfl)
      refine pu_ 11 (some 106) ?_ (bz 25 4095) rfl rfl (any_of HT_.out (by kernel_rfl)) (fun _ _ _ h => h) (Or.inl ⟨by rfl, ?_⟩) ?_ ?_ ?_; rotate_left; (intro w'; go_simp; with_reducible rfl); rotate_left; (simp only [Act.put, ls1, ls2, ls3, i64_w, i32_w]; rfl)
      refine pu_ 13 (some 108) ?_ (bz 25 12287) rfl rfl (any_of HT_.out (by kernel_rfl)) (fun _ _ _ h => h) (Or.inl ⟨by rfl, ?_⟩) ?_ ?_ ?_; rotate_left; (intro w'; go_simp; with_reducible rfl); rotate_left; (simp only [Act.put, ls1, ls2, ls3, i64_w, i32_w]; rfl)
      refine pu_ 14 (some 109) ?_ (bz 25 28671) rfl rfl (any_of HT_.out (by kernel_rfl)) (fun _ _ _ h => h) (Or.inl ⟨by rfl, ?_⟩) ?_ ?_ ?_; rotate_left; (intro w'; go_simp; with_reducible rfl); rotate_left; (simp only [Act.put, ls1, ls2, ls3, i64_w, i32_w]; rfl)
      refine pu_ 15 (some 110) ?_ (bz 25 61439) rfl rfl (any_of HT_.out (by kernel_rfl)) (fun _ _ _ h => h) (Or.inl ⟨by rfl, ?_⟩) ?_ ?_ ?_; rotate_left; (intro w'; go_simp; with_reducible rfl); rotate_left; (simp only [Act.put, ls1, ls2, ls3, i64_w, i32_w]; rfl)
      refine pu_ 17 (some 112) ?_ (bz 25 192511) rfl rfl (any_of HT_.out (by kernel_rfl)) (fun _ _ _ h => h) (Or.inl ⟨by rfl, ?_⟩) ?_ ?_ ?_; rotate_left; (intro w'; go_simp; with_reducible rfl); rotate_left; (simp only [Act.put, ls1, ls2, ls3, i64_w, i32_w]; rfl)
      refine pu_ 19 (some 114) ?_ (bz 25 716799) rfl rfl (any_of HT_.out (by kernel_rfl)) (fun _ _ _ h => h) (Or.inl ⟨by rfl, ?_⟩) ?_ ?_ ?_; rotate_left; (intro w'; go_simp; with_reducible rfl); rotate_left; (simp only [Act.put, ls1, ls2, ls3, i64_w, i32_w]; rfl)
      refine pu_ 20 (some 115) ?_ (bz 25 1765375) rfl rfl (any_of HT_.out (by kernel_rfl)) (fun _ _ _ h => h) (Or.inl ⟨by rfl, ?_⟩) ?_ ?_ ?_; rotate_left; (intro w'; go_simp; with_reducible rfl); rotate_left; (simp only [Act.put, ls1, ls2, ls3, i64_w, i32_w]; rfl)
      refine pu_ 21 (some 116) ?_ (bz 25 3862527) rfl rfl (any_of HT_.out (by kernel_rfl)) (fun _ _ _ h => h) (Or.inl ⟨by rfl, ?_⟩) ?_ ?_ ?_; rotate_left; (intro w'; go_simp; with_reducible rfl); rotate_left; (simp only [Act.put, ls1, ls2, ls3, i64_w, i32_w]; rfl)
      refine take_ (i := 12) (N := some 107) (v := ?_) (a' := ?_) (bz 25 3866623) rfl rfl (take_ofW HT_.out HW_.out (by kernel_rfl)) (fun _ _ _ h => h) (Or.inl ⟨by rfl, ?_⟩) hHeld ?_ ?_; rotate_left; (rintro w' ⟨s0, s1, s2, s3, s4⟩; go_simp; with_reducible rfl); rotate_left; (simp only [Act.put, ls1, ls2, ls3, i64_w, i32_w]; rfl)
      refine take_ (i := 16) (N := some 111) (v := ?_) (a' := ?_) (bz 25 3932159) rfl rfl (take_ofW HT_.out HW_.out (by kernel_rfl)) (fun _ _ _ h => h) (Or.inl ⟨by rfl, ?_⟩) hHeld ?_ ?_; rotate_left; (rintro w' ⟨s0, s1, s2, s3, s4⟩; go_simp; with_reducible rfl); rotate_left; (simp only [Act.put, ls1, ls2, ls3, i64_w, i32_w]; rfl)
      refine one_ (i := 18) (N := some 113) (bz 25 4194303) rfl rfl (one_of HT_.out (by kernel_rfl)) (by decide) (fun K hK => ?_)
      refine goes_ Try.func29 (by kernel_rfl) rfl #[.agg #[.int .i64 t395, .int .i64 t396, .slice Ao11 t397.length co11], .int .i64 (rd t404 x8_2), .int .i64 t401] (by rfl) rfl rfl (by (try simp only [mt_, mc_, mn_]); first | done | rfl | (simp only [ld_, lt_]; rfl)) ?_
      with_reducible refine (impl_WayTo.calls k2 t395 t396 _ _ t397 (rd t404 x8_2) t401 t415 _ ?side1 ?side2 A66.out).mono ?_
      (case side1 => repeat (first | exact (Kd.Q_reads' HO_403002.out).2.2 | (with_reducible first | refine c1_ ?_ _ | refine c2_ ?_ _ | refine c3_ ?_)))
      (case side2 => exact (Kd.Q_reads' HO_403002.out).2.1)
      rintro e w80 ⟨v416, rfl, ho0, hb⟩
      have HS3_ := (hb.cell (World.block_lt_of_cell? _ _ (hHeld.2.2.2.1))).trans (hHeld.2.2.2.1)
      have HS4_ := (hb.cell (World.block_lt_of_cell? _ _ (hHeld.2.2.2.2))).trans (hHeld.2.2.2.2)
      refine ⟨_, rfl, ?_⟩
      have n0_ := am_ (Kd.R_elder' (by (with_reducible repeat (first | apply r1_ | apply r2_ | apply r3_)); exact HO_7.out) (Kd.R_base ho0) hb)
      have n1_ := am_ (Kd.Q_elder' (by (with_reducible repeat (first | apply q1_ | apply q2_ | apply q3_)); exact HO_403002.out) (Kd.R_base ho0) hb)
      have n2_ := am_ (Kd.R_lower (Kd.R_new' (Kd.R_new' ho0 (Kd.R_lt (by (with_reducible repeat (first | apply r1_ | apply r2_ | apply r3_)); exact HO_7.out))) (Kd.Q_lt (by (with_reducible repeat (first | apply q1_ | apply q2_ | apply q3_)); exact HO_403002.out))) (below_size (by repeat (first | (with_reducible first | exact HB.out | apply b1_ | apply b2_ | apply b3_ | refine below_set ?_ GE402.out) | exact HB.out))))
      have n3_ := am_ (blk_below (g := gb402) (o := .cells #[.int .i64 t395, .int .i64 t396, .slice Ao11 t397.length co11] 37 (0, 0)) (by (with_reducible repeat (first | refine k1_ ?_ _ | refine k2_ ?_ | refine k3_ ?_ _)); exact BK402.out) hb)
      have n4_ := am_ (below_step (by repeat (first | (with_reducible first | exact HB.out | apply b1_ | apply b2_ | apply b3_ | refine below_set ?_ GE402.out) | exact HB.out)) hb)
      replace HO_7 := n0_
      replace HO_403002 := n1_
      have HO417 := n2_
      replace BK402 := n3_
      replace HB := n4_
      clear n0_ n1_ n2_ n3_ n4_
      (try clear hb)
      (try clear hb2)
      (try clear hk)
      (try clear hi)
      (try clear ho0)
      have q81 : (x8_2 : Int) ≤ ((t404.length : Int) : Int) := of_decide_eq_true (by first | (with_reducible assumption) | assumption)
      obtain ⟨i081, hi081, _, hsz81, _⟩ := info_parts info3
      have hroom81 : t404.length ≤ co77 := (Kd.R_reads' HO_7.out).2.1
      have hC81 : Kd.C (Kd.int .i64) _ (some ad412) t404.length t404 := (Kd.R_reads' HO_7.out).2.2
      have q081 : (0 : Int) ≤ (x8_2 : Int) := of_decide_eq_true (by first | (with_reducible assumption) | assumption)
      have hcut81 := cut_from (P := Try.prog) 35 3 .i64 Try.underlying35 hi081 1 hsz81 (some ad412) t404.length co77 x8_2 q081 q81
      have hr81 := Kd.C_drop (m := (x8_2 : Int).toNat) (c := co77) hC81 (by omega) hroom81
      obtain ⟨A81, hA81⟩ : ∃ A1, A1 = (if co77 = (x8_2 : Int).toNat then (some ad412) else ((some ad412) : Option Addr).map (·.add ((x8_2 : Int).toNat * 1))) := ⟨_, rfl⟩
      obtain ⟨c81, hc81⟩ : ∃ c1, c1 = co77 - (x8_2 : Int).toNat := ⟨_, rfl⟩
      have hy81 : y418.length = t404.length - (x8_2 : Int).toNat := (by rw [Ny418.out, ld_] <;> omega)
      rw [show (t404).drop (x8_2 : Int).toNat = y418 from Ny418.out.symm] at hr81
      replace hr81 : Kd.C (Kd.int .i64) _ A81 y418.length y418 := (by rw [hA81]; exact hr81)
      rw [← hy81, ← hA81, ← hc81] at hcut81
      have HR421 := am_ hr81
      have HC421 := am_ (show y418.length ≤ c81 from by rw [hy81, hc81]; exact Nat.sub_le_sub_right hroom81 _)
      have KC81 := am_ hc81
      clear hr81 hC81 hroom81 hi081 hsz81 hc81
      have KY81 := am_ hy81
      have KA81 := am_ hA81
      clear hy81 hA81
      have KL81 := am_ (show (x8_2 : Int).toNat ≤ t404.length from by omega)
      replace q81 := eq_true q81
      obtain ⟨Ao82, co82, eo82⟩ := Kd.R_slice HO417.out
      (first | subst eo82 | (injection eo82 with f1_ f2_ f3_; have f4_ := f1_.symm; have f5_ := f3_.symm; clear f1_ f2_ f3_; subst f4_; subst f5_))
      refine hK.out _ _ ⟨(blk_cell BK402.out 0).trans rfl, (blk_cell BK402.out 1).trans rfl, (blk_cell BK402.out 2).trans rfl, HS3_, HS4_⟩ (fun hHeld => ?_)
      clear hK K
      refine norm_ (a' := ?_) ?_ ?_
      rotate_left
      ·show Act.put _ (some 113) _ = _
       simp only [Act.put, ls1, ls2, ls3, i64_w, i32_w]
       rfl
      rw [show Value.slice (if co77 = (x8_2 : Int).toNat then some ad412 else some (ad412.add (x8_2 : Int).toNat)) (t404.length - (x8_2 : Int).toNat) (co77 - (x8_2 : Int).toNat) = Value.slice A81 y418.length c81 from by rw [KA81.out, KY81.out, KC81.out]; simp only [Option.map_some, Nat.mul_one]]
      refine one_ (i := 22) (N := some 117) (bz 25 8388607) rfl rfl (one_of HT_.out (by kernel_rfl)) (by decide) (fun K hK => ?_)
      refine goes_ Try.func32 (by kernel_rfl) rfl #[.slice Ao82 t415.length co82, .slice A81 y418.length c81] (by rfl) rfl rfl (by (try simp only [mt_, mc_, mn_]); first | done | rfl | (simp only [ld_, lt_]; rfl)) ?_
      with_reducible refine (laws_sameInts.calls k2 _ _ t415 _ _ y418 false _ ?side1 ?side2 ?side3 ?side4 A69.out).mono ?_
      (case side1 => repeat (first | exact (Kd.R_reads' HO417.out).2.2 | (with_reducible first | refine c1_ ?_ _ | refine c2_ ?_ _ | refine c3_ ?_)))
      (case side2 => exact (Kd.R_reads' HO417.out).2.1)
      (case side3 => repeat (first | exact (by repeat (first | (with_reducible exact HR421.out) | (with_reducible first | refine c1_ ?_ _ | refine c2_ ?_ _ | refine c3_ ?_) | exact HR421.out)) | (with_reducible first | refine c1_ ?_ _ | refine c2_ ?_ _ | refine c3_ ?_)))
      (case side4 => exact HC421.out)
      rintro e w' ⟨rfl, ⟨nd, rfl⟩⟩
      refine ⟨_, rfl, ?_⟩
      refine hK.out _ _ ⟨(blk_cell BK402.out 0).trans rfl, (blk_cell BK402.out 1).trans rfl, (blk_cell BK402.out 2).trans rfl, hHeld.2.2.2.1, hHeld.2.2.2.2⟩ (fun hHeld => ?_)
      clear hK K
      refine norm_ (a' := ?_) ?_ ?_
      rotate_left
      ·show Act.put _ (some 117) _ = _
       simp only [Act.put, ls1, ls2, ls3, i64_w, i32_w]
       rfl
      refine pu_ 23 (some 118) ?_ (bz 25 16777215) rfl rfl (any_of HT_.out (by kernel_rfl)) (fun _ _ _ h => h) (Or.inl ⟨by rfl, ?_⟩) ?_ ?_ ?_; rotate_left; (intro w'; go_simp; with_reducible rfl); rotate_left; (simp only [Act.put, ls1, ls2, ls3, i64_w, i32_w]; rfl)
      refine pu_ 24 (some 119) ?_ (bz 25 33554431) rfl rfl (any_of HT_.out (by kernel_rfl)) (fun _ _ _ h => h) (Or.inl ⟨by rfl, ?_⟩) ?_ ?_ ?_; rotate_left; (intro w'; go_simp; with_reducible rfl); rotate_left; (simp only [Act.put, ls1, ls2, ls3, i64_w, i32_w]; rfl)
      refine done_ (done_of HT_.out (by kernel_rfl)) ?_
      try go_wp2
      go_ret
      exact ⟨by first | rfl | (simp [errW_none, errW_some] <;> rfl) | (simp [*, errW_none, errW_some] <;> rfl), by repeat (first | (with_reducible first | exact HB.out | apply b1_ | apply b2_ | apply b3_ | refine below_set ?_ GE402.out) | exact HB.out)⟩
     rw [if_neg c62] at H
     have c62b0 : decide (x8_2 < (t404.length : Int)) = false := decide_eq_false c62
     clear c62
     replace H := Option.bind_eq_some_iff.mp H
     obtain ⟨t423, A860, H⟩ := H
     replace H : (laws_FnWays.l1 k2 l0 t400 t401 t403 t423 0 t395 t396 t397) = some r := H
     have A86 := am_ A860
     clear A860
     have H' := am_ H
     clear H
     obtain ⟨Ao87, co87, eo87⟩ := Kd.R_slice HO_7.out
     subst eo87
     have hcz88_0 : wr.cell? ⟨gb402, 0, none⟩ = some (.int .i64 t395) := (blk_cell BK402.out 0).trans rfl
     have hcz88_1 : wr.cell? ⟨gb402, 1, none⟩ = some (.int .i64 t396) := (blk_cell BK402.out 1).trans rfl
     have hcz88_2 : wr.cell? ⟨gb402, 2, none⟩ = some (.slice Ao11 t397.length co11) := (blk_cell BK402.out 2).trans rfl
     have hfz88_0 := blk_frozen BK402.out 0
     have hfz88_1 := blk_frozen BK402.out 1
     have hfz88_2 := blk_frozen BK402.out 2
     go_wp2_with (first | ((with_reducible refine gate_callee (f := 33) rfl ?_); refine goesL_ (some 122) rfl rfl Try.func33 (by kernel_rfl) rfl #[.agg #[.int .i64 t395, .int .i64 t396, .slice Ao11 t397.length co11], .int .i64 t400] rfl (by (try simp only [mt_, mc_, mn_]); first | done | rfl | (simp only [ld_, lt_]; rfl)) ?_; (with_reducible refine (impl_Near.calls k2 t395 t396 _ _ t397 t400 t423 _ ?side1 ?side2 A86.out).mono ?_); (case side1 => repeat (first | exact (Kd.Q_reads' HO_403002.out).2.2 | (with_reducible first | refine c1_ ?_ _ | refine c2_ ?_ _ | refine c3_ ?_))); (case side2 => exact (Kd.Q_reads' HO_403002.out).2.1); rintro e w89 ⟨v424, rfl, ho0, hb⟩; refine ⟨_, rfl, ?_⟩; have n0_ := am_ (Kd.R_elder' (by (with_reducible repeat (first | apply r1_ | apply r2_ | apply r3_)); exact HO_7.out) (Kd.R_base ho0) hb); have n1_ := am_ (Kd.Q_elder' (by (with_reducible repeat (first | apply q1_ | apply q2_ | apply q3_)); exact HO_403002.out) (Kd.R_base ho0) hb); have n2_ := am_ (Kd.R_lower (Kd.R_new' (Kd.R_new' ho0 (Kd.R_lt (by (with_reducible repeat (first | apply r1_ | apply r2_ | apply r3_)); exact HO_7.out))) (Kd.Q_lt (by (with_reducible repeat (first | apply q1_ | apply q2_ | apply q3_)); exact HO_403002.out))) (below_size (by repeat (first | (with_reducible first | exact HB.out | apply b1_ | apply b2_ | apply b3_ | refine below_set ?_ GE402.out) | exact HB.out)))); have n3_ := am_ (blk_below (g := gb402) (o := .cells #[.int .i64 t395, .int .i64 t396, .slice Ao11 t397.length co11] 37 (0, 0)) (by (with_reducible repeat (first | refine k1_ ?_ _ | refine k2_ ?_ | refine k3_ ?_ _)); exact BK402.out) hb); have n4_ := am_ (below_step (by repeat (first | (with_reducible first | exact HB.out | apply b1_ | apply b2_ | apply b3_ | refine below_set ?_ GE402.out) | exact HB.out)) hb); replace HO_7 := n0_; replace HO_403002 := n1_; have HO425 := n2_; replace BK402 := n3_; replace HB := n4_; clear n0_ n1_ n2_ n3_ n4_; (try clear hb); (try clear hb2); (try clear hk); (try clear hi); (try clear ho0)))
     go_loopg [10] k2 (fun kq v10 w' => ∃ (x10_3 : Int), v10 = .int .i64 x10_3 ∧ Aside0 (laws_FnWays.l1 kq l0 t400 t401 t403 t423 x10_3 t395 t396 t397 = some r) ∧ Aside0 (kq ≤ k2) ∧ Aside0 (Kd.R (Kd.int .i64) 3 w' w.heap.size (fun k_ => some k_ ≠ ((.slice Ao11 t397.length co11) : Value).ownBlock) v424 t423) ∧ Aside0 (Kd.Q (Kd.int .i64) 3 w' w.heap.size (fun k_ => some k_ ≠ (v424 : Value).ownBlock) (.slice Ao11 t397.length co11) t397) ∧ Aside0 (w'.heap[gb402]? = some (.cells #[.int .i64 t395, .int .i64 t396, (.slice Ao11 t397.length co11)] 37 (0, 0))) ∧ Aside0 (Below w.heap.size w w'))
     case atStart => exact ⟨(0), (by first | rfl | (simp; done) | (simp [*]; done)), H', ⟨Nat.le_refl _⟩, ⟨by (with_reducible repeat (first | apply r1_ | apply r2_ | apply r3_)); exact Kd.R_mono HO425.out (fun _ hk => hk.2)⟩, ⟨by (with_reducible repeat (first | apply q1_ | apply q2_ | apply q3_)); exact Kd.Q_mono HO_403002.out (fun _ hk => hk.2)⟩, ⟨by (with_reducible repeat (first | refine k1_ ?_ _ | refine k2_ ?_ | refine k3_ ?_ _)); exact BK402.out⟩, ⟨by repeat (first | (with_reducible first | exact HB.out | apply b1_ | apply b2_ | apply b3_ | refine below_set ?_ GE402.out) | exact HB.out)⟩⟩
     case round => as_aux_lemma =>
      clear H'
      try clear c1
      try clear c2
      try clear p2
      try clear c3
      try clear p4
      try clear q4
      try clear hx4
      try clear c6
      try clear p6
      try clear c7
      try clear c8
      try clear q8
      try clear c28
      try clear c29
      try clear c32
      try clear c33
      try clear p41
      try clear q41
      try clear hx41
      try clear c62
      try clear c62b0
      try clear c63
      try clear p64
      try clear c65
      try clear c65b0
      try clear c65b1
      try clear c68
      try clear c70
      try clear c75
      try clear c81
      try clear q81
      try clear hcz88_0
      try clear hcz88_1
      try clear hcz88_2
      try clear hfz88_0
      try clear hfz88_1
      try clear hfz88_2
      try clear hx412_0
      try clear hx414_0
      try clear p412
      try clear p414
      try clear q081
      try clear q412
      try clear q414
      try clear q81
      obtain ⟨x10_3, rfl, HA, HK3, HO_9, HO_403002, BK402, HB⟩ := hrel
      cases gk with
      | zero => exact absurd HA.out (by simp [laws_FnWays.l1])
      | succ k3 =>
       have H := HA.out
       clear HA
       simp only [laws_FnWays.l1] at H
       by_cases c90 : x10_3 < (t423.length : Int)
       ·rw [if_pos c90] at H
        have c90b0 : decide (x10_3 < (t423.length : Int)) = true := decide_eq_true c90
        clear c90
        by_cases c91 : 0 ≤ x10_3
        rotate_left
        ·rw [if_neg c91] at H
         exact absurd H (by simp)
        rw [if_pos c91] at H
        have c91b0 : decide (0 ≤ x10_3) = true := decide_eq_true c91
        clear c91
        replace H := Option.bind_eq_some_iff.mp H
        obtain ⟨t427, A920, H⟩ := H
        replace H : (if t403 ≥ 0 then (if t427 < (wrap64 (t403 - 1)) then (if t400 = t401 then (if t427 < 0 then ((impl_IsOpen.f k3 t395 t396 t397 t400).bind fun t428 => (if t428 = true then (some false) else (laws_FnWays.l1 k3 l0 t400 t401 t403 t423 (wrap64 (x10_3 + 1)) t395 t396 t397))) else (laws_FnWays.l1 k3 l0 t400 t401 t403 t423 (wrap64 (x10_3 + 1)) t395 t396 t397)) else (some false)) else (if t427 < 0 then ((impl_IsOpen.f k3 t395 t396 t397 t400).bind fun t429 => (if t429 = true then (some false) else (laws_FnWays.l1 k3 l0 t400 t401 t403 t423 (wrap64 (x10_3 + 1)) t395 t396 t397))) else (laws_FnWays.l1 k3 l0 t400 t401 t403 t423 (wrap64 (x10_3 + 1)) t395 t396 t397))) else (laws_FnWays.l1 k3 l0 t400 t401 t403 t423 (wrap64 (x10_3 + 1)) t395 t396 t397)) = some r := H
        have A92 := am_ A920
        clear A920
        by_cases c93 : t403 ≥ 0
        rotate_left
        ·rw [if_neg c93] at H
         have c93b0 : decide (0 ≤ t403) = false := decide_eq_false c93
         clear c93
         have H' := am_ H
         clear H
         obtain ⟨Ao131, co131, eo131⟩ := Kd.R_slice HO_9.out
         subst eo131
         try go_wp2
         have n0_ := am_ (r3_ HO_9.out)
         have n1_ := am_ (q3_ HO_403002.out)
         have n2_ := am_ (k2_ BK402.out)
         have n3_ := am_ (b3_ HB.out)
         replace HO_9 := n0_
         replace HO_403002 := n1_
         replace BK402 := n2_
         replace HB := n3_
         clear n0_ n1_ n2_ n3_
         have p426 : 0 ≤ (x10_3 : Int) := of_decide_eq_true (by first | (with_reducible assumption) | assumption)
         have q426 : x10_3 < (t423.length : Int) := of_decide_eq_true (by first | (with_reducible assumption) | assumption)
         obtain ⟨ad426, e426, hx426_0⟩ := Kd.at_int (Kd.R_reads' HO_9.out).2.2 x10_3 p426 q426
         cases e426
         replace p426 := eq_true p426
         replace q426 := eq_true q426
         refine start_ (n := 8) (S := fun w' => w'.cell? ⟨gb402, 0, none⟩ = some (.int .i64 t395) ∧ w'.cell? ⟨gb402, 1, none⟩ = some (.int .i64 t396) ∧ w'.cell? ⟨gb402, 2, none⟩ = some (.slice Ao11 t397.length co11) ∧ w'.cell? (ad426.add (x10_3).toNat) = some (.int .i64 (rd t423 x10_3))) (ds := []) (bz 8 0) (by kernel_rfl) rfl rfl ⟨(blk_cell BK402.out 0).trans rfl, (blk_cell BK402.out 1).trans rfl, (blk_cell BK402.out 2).trans rfl, hx426_0⟩ (fun hHeld => ?_); refine with_tabW laws_FnWays.tab17 laws_FnWays.bits17 (fun HT_ HW_ => ?_)
         generalize wr.drew = w132 at HO_9 HO_403002 BK402 HB hx426_0 hHeld ⊢
         refine pu_ 1 (some 130) ?_ (bz 8 2) rfl rfl (any_of HT_.out (by kernel_rfl)) (fun _ _ _ h => h) (Or.inl ⟨by rfl, ?_⟩) ?_ ?_ ?_; rotate_left; (intro w'; go_simp; with_reducible rfl); rotate_left; (simp only [Act.put, ls1, ls2, ls3, i64_w, i32_w]; rfl)
         refine pu_ 2 (some 131) ?_ (bz 8 6) rfl rfl (any_of HT_.out (by kernel_rfl)) (fun _ _ _ h => h) (Or.inl ⟨by rfl, ?_⟩) ?_ ?_ ?_; rotate_left; (intro w'; go_simp; with_reducible rfl); rotate_left; (simp only [Act.put, ls1, ls2, ls3, i64_w, i32_w]; rfl)
         refine pu_ 3 (some 132) ?_ (bz 8 14) rfl rfl (any_of HT_.out (by kernel_rfl)) (fun _ _ _ h => h) (Or.inl ⟨by rfl, ?_⟩) ?_ ?_ ?_; rotate_left; (intro w'; go_simp; with_reducible rfl); rotate_left; (simp only [Act.put, ls1, ls2, ls3, i64_w, i32_w]; rfl)
         refine pu_ 5 (some 134) ?_ (bz 8 46) rfl rfl (any_of HT_.out (by kernel_rfl)) (fun _ _ _ h => h) (Or.inl ⟨by rfl, ?_⟩) ?_ ?_ ?_; rotate_left; (intro w'; go_simp; with_reducible rfl); rotate_left; (simp only [Act.put, ls1, ls2, ls3, i64_w, i32_w]; rfl)
         refine take_ (i := 0) (N := some 129) (v := ?_) (a' := ?_) (bz 8 47) rfl rfl (take_ofW HT_.out HW_.out (by kernel_rfl)) (fun _ _ _ h => h) (Or.inl ⟨by rfl, ?_⟩) hHeld ?_ ?_; rotate_left; (rintro w' ⟨s0, s1, s2, s3⟩; go_simp; with_reducible rfl); rotate_left; (simp only [Act.put, ls1, ls2, ls3, i64_w, i32_w]; rfl)
         refine take_ (i := 4) (N := some 133) (v := ?_) (a' := ?_) (bz 8 63) rfl rfl (take_ofW HT_.out HW_.out (by kernel_rfl)) (fun _ _ _ h => h) (Or.inl ⟨by rfl, ?_⟩) hHeld ?_ ?_; rotate_left; (rintro w' ⟨s0, s1, s2, s3⟩; go_simp; with_reducible rfl); rotate_left; (simp only [Act.put, ls1, ls2, ls3, i64_w, i32_w]; rfl)
         refine one_ (i := 6) (N := some 135) (bz 8 127) rfl rfl (one_of HT_.out (by kernel_rfl)) (by decide) (fun K hK => ?_)
         refine goes_ Try.func28 (by kernel_rfl) rfl #[.agg #[.int .i64 t395, .int .i64 t396, .slice Ao11 t397.length co11], .int .i64 (rd t423 x10_3), .int .i64 t401] (by rfl) rfl rfl (by (try simp only [mt_, mc_, mn_]); first | done | rfl | (simp only [ld_, lt_]; rfl)) ?_
         with_reducible refine (impl_Days.calls k3 t395 t396 _ _ t397 (rd t423 x10_3) t401 t427 _ ?side1 ?side2 A92.out).mono ?_
         (case side1 => repeat (first | exact (Kd.Q_reads' HO_403002.out).2.2 | (with_reducible first | refine c1_ ?_ _ | refine c2_ ?_ _ | refine c3_ ?_)))
         (case side2 => exact (Kd.Q_reads' HO_403002.out).2.1)
         rintro e w133 ⟨rfl, hb⟩
         have HS3_ := (hb.cell (World.block_lt_of_cell? _ _ (hHeld.2.2.2))).trans (hHeld.2.2.2)
         refine ⟨_, rfl, ?_⟩
         have n0_ := am_ (Kd.R_below (by (with_reducible repeat (first | apply r1_ | apply r2_ | apply r3_)); exact HO_9.out) hb)
         have n1_ := am_ (Kd.Q_below (by (with_reducible repeat (first | apply q1_ | apply q2_ | apply q3_)); exact HO_403002.out) hb)
         have n2_ := am_ (blk_below (g := gb402) (o := .cells #[.int .i64 t395, .int .i64 t396, .slice Ao11 t397.length co11] 37 (0, 0)) (by (with_reducible repeat (first | refine k1_ ?_ _ | refine k2_ ?_ | refine k3_ ?_ _)); exact BK402.out) hb)
         have n3_ := am_ (below_step (by repeat (first | (with_reducible first | exact HB.out | apply b1_ | apply b2_ | apply b3_ | refine below_set ?_ GE402.out) | exact HB.out)) hb)
         replace HO_9 := n0_
         replace HO_403002 := n1_
         replace BK402 := n2_
         replace HB := n3_
         clear n0_ n1_ n2_ n3_
         (try clear hb)
         (try clear hb2)
         (try clear hk)
         (try clear hi)
         refine hK.out _ _ ⟨(blk_cell BK402.out 0).trans rfl, (blk_cell BK402.out 1).trans rfl, (blk_cell BK402.out 2).trans rfl, HS3_⟩ (fun hHeld => ?_)
         clear hK K
         refine norm_ (a' := ?_) ?_ ?_
         rotate_left
         ·show Act.put _ (some 135) _ = _
          simp only [Act.put, ls1, ls2, ls3, i64_w, i32_w]
          rfl
         refine pu_ 7 (some 11) ?_ (bz 8 255) rfl rfl (any_of HT_.out (by kernel_rfl)) (fun _ _ _ h => h) (Or.inl ⟨by rfl, ?_⟩) ?_ ?_ ?_; rotate_left; (intro w'; go_simp; with_reducible rfl); rotate_left; (simp only [Act.put, ls1, ls2, ls3, i64_w, i32_w]; rfl)
         refine done_ (done_of HT_.out (by kernel_rfl)) ?_
         try go_wp2
         go_roundg k3
         case measure => have := HJ6.out; have := HK2.out; have := HK3.out; omega
         case rel => exact ⟨(wrap64 (x10_3 + 1)), (by first | rfl | (simp; done) | (simp [*]; done)), H', ⟨by have := HJ6.out; have := HK2.out; have := HK3.out; omega⟩, ⟨by (with_reducible repeat (first | apply r1_ | apply r2_ | apply r3_)); exact HO_9.out⟩, ⟨by (with_reducible repeat (first | apply q1_ | apply q2_ | apply q3_)); exact HO_403002.out⟩, ⟨by (with_reducible repeat (first | refine k1_ ?_ _ | refine k2_ ?_ | refine k3_ ?_ _)); exact BK402.out⟩, ⟨by repeat (first | (with_reducible first | exact HB.out | apply b1_ | apply b2_ | apply b3_ | refine below_set ?_ GE402.out) | exact HB.out)⟩⟩
        rw [if_pos c93] at H
        have c93b0 : decide (0 ≤ t403) = true := decide_eq_true c93
        clear c93
        by_cases c94 : t427 < (wrap64 (t403 - 1))
        rotate_left
        ·rw [if_neg c94] at H
         have c94b0 : decide (t427 < (wrap64 (t403 - 1))) = false := decide_eq_false c94
         clear c94
         by_cases c115 : t427 < 0
         rotate_left
         ·rw [if_neg c115] at H
          have c115b0 : decide (t427 < 0) = false := decide_eq_false c115
          clear c115
          have H' := am_ H
          clear H
          obtain ⟨Ao128, co128, eo128⟩ := Kd.R_slice HO_9.out
          subst eo128
          try go_wp2
          have n0_ := am_ (r3_ HO_9.out)
          have n1_ := am_ (q3_ HO_403002.out)
          have n2_ := am_ (k2_ BK402.out)
          have n3_ := am_ (b3_ HB.out)
          replace HO_9 := n0_
          replace HO_403002 := n1_
          replace BK402 := n2_
          replace HB := n3_
          clear n0_ n1_ n2_ n3_
          have p426 : 0 ≤ (x10_3 : Int) := of_decide_eq_true (by first | (with_reducible assumption) | assumption)
          have q426 : x10_3 < (t423.length : Int) := of_decide_eq_true (by first | (with_reducible assumption) | assumption)
          obtain ⟨ad426, e426, hx426_0⟩ := Kd.at_int (Kd.R_reads' HO_9.out).2.2 x10_3 p426 q426
          cases e426
          replace p426 := eq_true p426
          replace q426 := eq_true q426
          refine start_ (n := 8) (S := fun w' => w'.cell? ⟨gb402, 0, none⟩ = some (.int .i64 t395) ∧ w'.cell? ⟨gb402, 1, none⟩ = some (.int .i64 t396) ∧ w'.cell? ⟨gb402, 2, none⟩ = some (.slice Ao11 t397.length co11) ∧ w'.cell? (ad426.add (x10_3).toNat) = some (.int .i64 (rd t423 x10_3))) (ds := []) (bz 8 0) (by kernel_rfl) rfl rfl ⟨(blk_cell BK402.out 0).trans rfl, (blk_cell BK402.out 1).trans rfl, (blk_cell BK402.out 2).trans rfl, hx426_0⟩ (fun hHeld => ?_); refine with_tabW laws_FnWays.tab17 laws_FnWays.bits17 (fun HT_ HW_ => ?_)
          generalize wr.drew = w129 at HO_9 HO_403002 BK402 HB hx426_0 hHeld ⊢
          refine pu_ 1 (some 130) ?_ (bz 8 2) rfl rfl (any_of HT_.out (by kernel_rfl)) (fun _ _ _ h => h) (Or.inl ⟨by rfl, ?_⟩) ?_ ?_ ?_; rotate_left; (intro w'; go_simp; with_reducible rfl); rotate_left; (simp only [Act.put, ls1, ls2, ls3, i64_w, i32_w]; rfl)
          refine pu_ 2 (some 131) ?_ (bz 8 6) rfl rfl (any_of HT_.out (by kernel_rfl)) (fun _ _ _ h => h) (Or.inl ⟨by rfl, ?_⟩) ?_ ?_ ?_; rotate_left; (intro w'; go_simp; with_reducible rfl); rotate_left; (simp only [Act.put, ls1, ls2, ls3, i64_w, i32_w]; rfl)
          refine pu_ 3 (some 132) ?_ (bz 8 14) rfl rfl (any_of HT_.out (by kernel_rfl)) (fun _ _ _ h => h) (Or.inl ⟨by rfl, ?_⟩) ?_ ?_ ?_; rotate_left; (intro w'; go_simp; with_reducible rfl); rotate_left; (simp only [Act.put, ls1, ls2, ls3, i64_w, i32_w]; rfl)
          refine pu_ 5 (some 134) ?_ (bz 8 46) rfl rfl (any_of HT_.out (by kernel_rfl)) (fun _ _ _ h => h) (Or.inl ⟨by rfl, ?_⟩) ?_ ?_ ?_; rotate_left; (intro w'; go_simp; with_reducible rfl); rotate_left; (simp only [Act.put, ls1, ls2, ls3, i64_w, i32_w]; rfl)
          refine take_ (i := 0) (N := some 129) (v := ?_) (a' := ?_) (bz 8 47) rfl rfl (take_ofW HT_.out HW_.out (by kernel_rfl)) (fun _ _ _ h => h) (Or.inl ⟨by rfl, ?_⟩) hHeld ?_ ?_; rotate_left; (rintro w' ⟨s0, s1, s2, s3⟩; go_simp; with_reducible rfl); rotate_left; (simp only [Act.put, ls1, ls2, ls3, i64_w, i32_w]; rfl)
          refine take_ (i := 4) (N := some 133) (v := ?_) (a' := ?_) (bz 8 63) rfl rfl (take_ofW HT_.out HW_.out (by kernel_rfl)) (fun _ _ _ h => h) (Or.inl ⟨by rfl, ?_⟩) hHeld ?_ ?_; rotate_left; (rintro w' ⟨s0, s1, s2, s3⟩; go_simp; with_reducible rfl); rotate_left; (simp only [Act.put, ls1, ls2, ls3, i64_w, i32_w]; rfl)
          refine one_ (i := 6) (N := some 135) (bz 8 127) rfl rfl (one_of HT_.out (by kernel_rfl)) (by decide) (fun K hK => ?_)
          refine goes_ Try.func28 (by kernel_rfl) rfl #[.agg #[.int .i64 t395, .int .i64 t396, .slice Ao11 t397.length co11], .int .i64 (rd t423 x10_3), .int .i64 t401] (by rfl) rfl rfl (by (try simp only [mt_, mc_, mn_]); first | done | rfl | (simp only [ld_, lt_]; rfl)) ?_
          with_reducible refine (impl_Days.calls k3 t395 t396 _ _ t397 (rd t423 x10_3) t401 t427 _ ?side1 ?side2 A92.out).mono ?_
          (case side1 => repeat (first | exact (Kd.Q_reads' HO_403002.out).2.2 | (with_reducible first | refine c1_ ?_ _ | refine c2_ ?_ _ | refine c3_ ?_)))
          (case side2 => exact (Kd.Q_reads' HO_403002.out).2.1)
          rintro e w130 ⟨rfl, hb⟩
          have HS3_ := (hb.cell (World.block_lt_of_cell? _ _ (hHeld.2.2.2))).trans (hHeld.2.2.2)
          refine ⟨_, rfl, ?_⟩
          have n0_ := am_ (Kd.R_below (by (with_reducible repeat (first | apply r1_ | apply r2_ | apply r3_)); exact HO_9.out) hb)
          have n1_ := am_ (Kd.Q_below (by (with_reducible repeat (first | apply q1_ | apply q2_ | apply q3_)); exact HO_403002.out) hb)
          have n2_ := am_ (blk_below (g := gb402) (o := .cells #[.int .i64 t395, .int .i64 t396, .slice Ao11 t397.length co11] 37 (0, 0)) (by (with_reducible repeat (first | refine k1_ ?_ _ | refine k2_ ?_ | refine k3_ ?_ _)); exact BK402.out) hb)
          have n3_ := am_ (below_step (by repeat (first | (with_reducible first | exact HB.out | apply b1_ | apply b2_ | apply b3_ | refine below_set ?_ GE402.out) | exact HB.out)) hb)
          replace HO_9 := n0_
          replace HO_403002 := n1_
          replace BK402 := n2_
          replace HB := n3_
          clear n0_ n1_ n2_ n3_
          (try clear hb)
          (try clear hb2)
          (try clear hk)
          (try clear hi)
          refine hK.out _ _ ⟨(blk_cell BK402.out 0).trans rfl, (blk_cell BK402.out 1).trans rfl, (blk_cell BK402.out 2).trans rfl, HS3_⟩ (fun hHeld => ?_)
          clear hK K
          refine norm_ (a' := ?_) ?_ ?_
          rotate_left
          ·show Act.put _ (some 135) _ = _
           simp only [Act.put, ls1, ls2, ls3, i64_w, i32_w]
           rfl
          refine pu_ 7 (some 11) ?_ (bz 8 255) rfl rfl (any_of HT_.out (by kernel_rfl)) (fun _ _ _ h => h) (Or.inl ⟨by rfl, ?_⟩) ?_ ?_ ?_; rotate_left; (intro w'; go_simp; with_reducible rfl); rotate_left; (simp only [Act.put, ls1, ls2, ls3, i64_w, i32_w]; rfl)
          refine done_ (done_of HT_.out (by kernel_rfl)) ?_
          try go_wp2
          go_roundg k3
          case measure => have := HJ6.out; have := HK2.out; have := HK3.out; omega
          case rel => exact ⟨(wrap64 (x10_3 + 1)), (by first | rfl | (simp; done) | (simp [*]; done)), H', ⟨by have := HJ6.out; have := HK2.out; have := HK3.out; omega⟩, ⟨by (with_reducible repeat (first | apply r1_ | apply r2_ | apply r3_)); exact HO_9.out⟩, ⟨by (with_reducible repeat (first | apply q1_ | apply q2_ | apply q3_)); exact HO_403002.out⟩, ⟨by (with_reducible repeat (first | refine k1_ ?_ _ | refine k2_ ?_ | refine k3_ ?_ _)); exact BK402.out⟩, ⟨by repeat (first | (with_reducible first | exact HB.out | apply b1_ | apply b2_ | apply b3_ | refine below_set ?_ GE402.out) | exact HB.out)⟩⟩
         rw [if_pos c115] at H
         have c115b0 : decide (t427 < 0) = true := decide_eq_true c115
         clear c115
         replace H := Option.bind_eq_some_iff.mp H
         obtain ⟨t429, A1160, H⟩ := H
         replace H : (if t429 = true then (some false) else (laws_FnWays.l1 k3 l0 t400 t401 t403 t423 (wrap64 (x10_3 + 1)) t395 t396 t397)) = some r := H
         have A116 := am_ A1160
         clear A1160
         by_cases c117 : t429 = true
         ·subst c117
          have H1 : (some false) = some r := by rw [if_pos rfl] at H; exact H
          clear H
          have H := H1
          clear H1
          obtain rfl := Option.some.inj H
          obtain ⟨Ao118, co118, eo118⟩ := Kd.R_slice HO_9.out
          subst eo118
          try go_wp2
          have n0_ := am_ (r3_ HO_9.out)
          have n1_ := am_ (q3_ HO_403002.out)
          have n2_ := am_ (k2_ BK402.out)
          have n3_ := am_ (b3_ HB.out)
          replace HO_9 := n0_
          replace HO_403002 := n1_
          replace BK402 := n2_
          replace HB := n3_
          clear n0_ n1_ n2_ n3_
          have p426 : 0 ≤ (x10_3 : Int) := of_decide_eq_true (by first | (with_reducible assumption) | assumption)
          have q426 : x10_3 < (t423.length : Int) := of_decide_eq_true (by first | (with_reducible assumption) | assumption)
          obtain ⟨ad426, e426, hx426_0⟩ := Kd.at_int (Kd.R_reads' HO_9.out).2.2 x10_3 p426 q426
          cases e426
          replace p426 := eq_true p426
          replace q426 := eq_true q426
          refine start_ (n := 8) (S := fun w' => w'.cell? ⟨gb402, 0, none⟩ = some (.int .i64 t395) ∧ w'.cell? ⟨gb402, 1, none⟩ = some (.int .i64 t396) ∧ w'.cell? ⟨gb402, 2, none⟩ = some (.slice Ao11 t397.length co11) ∧ w'.cell? (ad426.add (x10_3).toNat) = some (.int .i64 (rd t423 x10_3))) (ds := []) (bz 8 0) (by kernel_rfl) rfl rfl ⟨(blk_cell BK402.out 0).trans rfl, (blk_cell BK402.out 1).trans rfl, (blk_cell BK402.out 2).trans rfl, hx426_0⟩ (fun hHeld => ?_); refine with_tabW laws_FnWays.tab17 laws_FnWays.bits17 (fun HT_ HW_ => ?_)
          generalize wr.drew = w119 at HO_9 HO_403002 BK402 HB hx426_0 hHeld ⊢
          refine pu_ 1 (some 130) ?_ (bz 8 2) rfl rfl (any_of HT_.out (by kernel_rfl)) (fun _ _ _ h => h) (Or.inl ⟨by rfl, ?_⟩) ?_ ?_ ?_; rotate_left; (intro w'; go_simp; with_reducible rfl); rotate_left; (simp only [Act.put, ls1, ls2, ls3, i64_w, i32_w]; rfl)
          refine pu_ 2 (some 131) ?_ (bz 8 6) rfl rfl (any_of HT_.out (by kernel_rfl)) (fun _ _ _ h => h) (Or.inl ⟨by rfl, ?_⟩) ?_ ?_ ?_; rotate_left; (intro w'; go_simp; with_reducible rfl); rotate_left; (simp only [Act.put, ls1, ls2, ls3, i64_w, i32_w]; rfl)
          refine pu_ 3 (some 132) ?_ (bz 8 14) rfl rfl (any_of HT_.out (by kernel_rfl)) (fun _ _ _ h => h) (Or.inl ⟨by rfl, ?_⟩) ?_ ?_ ?_; rotate_left; (intro w'; go_simp; with_reducible rfl); rotate_left; (simp only [Act.put, ls1, ls2, ls3, i64_w, i32_w]; rfl)
          refine pu_ 5 (some 134) ?_ (bz 8 46) rfl rfl (any_of HT_.out (by kernel_rfl)) (fun _ _ _ h => h) (Or.inl ⟨by rfl, ?_⟩) ?_ ?_ ?_; rotate_left; (intro w'; go_simp; with_reducible rfl); rotate_left; (simp only [Act.put, ls1, ls2, ls3, i64_w, i32_w]; rfl)
          refine take_ (i := 0) (N := some 129) (v := ?_) (a' := ?_) (bz 8 47) rfl rfl (take_ofW HT_.out HW_.out (by kernel_rfl)) (fun _ _ _ h => h) (Or.inl ⟨by rfl, ?_⟩) hHeld ?_ ?_; rotate_left; (rintro w' ⟨s0, s1, s2, s3⟩; go_simp; with_reducible rfl); rotate_left; (simp only [Act.put, ls1, ls2, ls3, i64_w, i32_w]; rfl)
          refine take_ (i := 4) (N := some 133) (v := ?_) (a' := ?_) (bz 8 63) rfl rfl (take_ofW HT_.out HW_.out (by kernel_rfl)) (fun _ _ _ h => h) (Or.inl ⟨by rfl, ?_⟩) hHeld ?_ ?_; rotate_left; (rintro w' ⟨s0, s1, s2, s3⟩; go_simp; with_reducible rfl); rotate_left; (simp only [Act.put, ls1, ls2, ls3, i64_w, i32_w]; rfl)
          refine one_ (i := 6) (N := some 135) (bz 8 127) rfl rfl (one_of HT_.out (by kernel_rfl)) (by decide) (fun K hK => ?_)
          refine goes_ Try.func28 (by kernel_rfl) rfl #[.agg #[.int .i64 t395, .int .i64 t396, .slice Ao11 t397.length co11], .int .i64 (rd t423 x10_3), .int .i64 t401] (by rfl) rfl rfl (by (try simp only [mt_, mc_, mn_]); first | done | rfl | (simp only [ld_, lt_]; rfl)) ?_
          with_reducible refine (impl_Days.calls k3 t395 t396 _ _ t397 (rd t423 x10_3) t401 t427 _ ?side1 ?side2 A92.out).mono ?_
          (case side1 => repeat (first | exact (Kd.Q_reads' HO_403002.out).2.2 | (with_reducible first | refine c1_ ?_ _ | refine c2_ ?_ _ | refine c3_ ?_)))
          (case side2 => exact (Kd.Q_reads' HO_403002.out).2.1)
          rintro e w120 ⟨rfl, hb⟩
          have HS3_ := (hb.cell (World.block_lt_of_cell? _ _ (hHeld.2.2.2))).trans (hHeld.2.2.2)
          refine ⟨_, rfl, ?_⟩
          have n0_ := am_ (Kd.R_below (by (with_reducible repeat (first | apply r1_ | apply r2_ | apply r3_)); exact HO_9.out) hb)
          have n1_ := am_ (Kd.Q_below (by (with_reducible repeat (first | apply q1_ | apply q2_ | apply q3_)); exact HO_403002.out) hb)
          have n2_ := am_ (blk_below (g := gb402) (o := .cells #[.int .i64 t395, .int .i64 t396, .slice Ao11 t397.length co11] 37 (0, 0)) (by (with_reducible repeat (first | refine k1_ ?_ _ | refine k2_ ?_ | refine k3_ ?_ _)); exact BK402.out) hb)
          have n3_ := am_ (below_step (by repeat (first | (with_reducible first | exact HB.out | apply b1_ | apply b2_ | apply b3_ | refine below_set ?_ GE402.out) | exact HB.out)) hb)
          replace HO_9 := n0_
          replace HO_403002 := n1_
          replace BK402 := n2_
          replace HB := n3_
          clear n0_ n1_ n2_ n3_
          (try clear hb)
          (try clear hb2)
          (try clear hk)
          (try clear hi)
          refine hK.out _ _ ⟨(blk_cell BK402.out 0).trans rfl, (blk_cell BK402.out 1).trans rfl, (blk_cell BK402.out 2).trans rfl, HS3_⟩ (fun hHeld => ?_)
          clear hK K
          refine norm_ (a' := ?_) ?_ ?_
          rotate_left
          ·show Act.put _ (some 135) _ = _
           simp only [Act.put, ls1, ls2, ls3, i64_w, i32_w]
           rfl
          refine pu_ 7 (some 11) ?_ (bz 8 255) rfl rfl (any_of HT_.out (by kernel_rfl)) (fun _ _ _ h => h) (Or.inl ⟨by rfl, ?_⟩) ?_ ?_ ?_; rotate_left; (intro w'; go_simp; with_reducible rfl); rotate_left; (simp only [Act.put, ls1, ls2, ls3, i64_w, i32_w]; rfl)
          refine done_ (done_of HT_.out (by kernel_rfl)) ?_
          have hcz121_0 : w120.cell? ⟨gb402, 0, none⟩ = some (.int .i64 t395) := (blk_cell BK402.out 0).trans rfl
          have hcz121_1 : w120.cell? ⟨gb402, 1, none⟩ = some (.int .i64 t396) := (blk_cell BK402.out 1).trans rfl
          have hcz121_2 : w120.cell? ⟨gb402, 2, none⟩ = some (.slice Ao11 t397.length co11) := (blk_cell BK402.out 2).trans rfl
          have hfz121_0 := blk_frozen BK402.out 0
          have hfz121_1 := blk_frozen BK402.out 1
          have hfz121_2 := blk_frozen BK402.out 2
          try go_wp2_with (first | (go_at_call 34; (with_reducible refine (impl_IsOpen.calls k3 t395 t396 _ _ t397 t400 true _ ?side1 ?side2 A116.out).mono ?_); (case side1 => repeat (first | exact (Kd.Q_reads' HO_403002.out).2.2 | (with_reducible first | refine c1_ ?_ _ | refine c2_ ?_ _ | refine c3_ ?_))); (case side2 => exact (Kd.Q_reads' HO_403002.out).2.1); rintro e w122 ⟨rfl, hb⟩; have n0_ := am_ (Kd.R_below (by (with_reducible repeat (first | apply r1_ | apply r2_ | apply r3_)); exact HO_9.out) hb); have n1_ := am_ (Kd.Q_below (by (with_reducible repeat (first | apply q1_ | apply q2_ | apply q3_)); exact HO_403002.out) hb); have n2_ := am_ (blk_below (g := gb402) (o := .cells #[.int .i64 t395, .int .i64 t396, .slice Ao11 t397.length co11] 37 (0, 0)) (by (with_reducible repeat (first | refine k1_ ?_ _ | refine k2_ ?_ | refine k3_ ?_ _)); exact BK402.out) hb); have n3_ := am_ (below_step (by repeat (first | (with_reducible first | exact HB.out | apply b1_ | apply b2_ | apply b3_ | refine below_set ?_ GE402.out) | exact HB.out)) hb); replace HO_9 := n0_; replace HO_403002 := n1_; replace BK402 := n2_; replace HB := n3_; clear n0_ n1_ n2_ n3_; (try clear hb); (try clear hb2); (try clear hk); (try clear hi)))
          go_ret
          exact ⟨by first | rfl | (simp [errW_none, errW_some] <;> rfl) | (simp [*, errW_none, errW_some] <;> rfl), by repeat (first | (with_reducible first | exact HB.out | apply b1_ | apply b2_ | apply b3_ | refine below_set ?_ GE402.out) | exact HB.out)⟩
         replace c117 := Bool.eq_false_iff.mpr c117
         subst c117
         have H1 : (laws_FnWays.l1 k3 l0 t400 t401 t403 t423 (wrap64 (x10_3 + 1)) t395 t396 t397) = some r := by rw [if_neg (show ¬ (false = true) by decide)] at H; exact H
         clear H
         have H := H1
         clear H1
         have H' := am_ H
         clear H
         obtain ⟨Ao123, co123, eo123⟩ := Kd.R_slice HO_9.out
         subst eo123
         try go_wp2
         have n0_ := am_ (r3_ HO_9.out)
         have n1_ := am_ (q3_ HO_403002.out)
         have n2_ := am_ (k2_ BK402.out)
         have n3_ := am_ (b3_ HB.out)
         replace HO_9 := n0_
         replace HO_403002 := n1_
         replace BK402 := n2_
         replace HB := n3_
         clear n0_ n1_ n2_ n3_
         have p426 : 0 ≤ (x10_3 : Int) := of_decide_eq_true (by first | (with_reducible assumption) | assumption)
         have q426 : x10_3 < (t423.length : Int) := of_decide_eq_true (by first | (with_reducible assumption) | assumption)
         obtain ⟨ad426, e426, hx426_0⟩ := Kd.at_int (Kd.R_reads' HO_9.out).2.2 x10_3 p426 q426
         cases e426
         replace p426 := eq_true p426
         replace q426 := eq_true q426
         refine start_ (n := 8) (S := fun w' => w'.cell? ⟨gb402, 0, none⟩ = some (.int .i64 t395) ∧ w'.cell? ⟨gb402, 1, none⟩ = some (.int .i64 t396) ∧ w'.cell? ⟨gb402, 2, none⟩ = some (.slice Ao11 t397.length co11) ∧ w'.cell? (ad426.add (x10_3).toNat) = some (.int .i64 (rd t423 x10_3))) (ds := []) (bz 8 0) (by kernel_rfl) rfl rfl ⟨(blk_cell BK402.out 0).trans rfl, (blk_cell BK402.out 1).trans rfl, (blk_cell BK402.out 2).trans rfl, hx426_0⟩ (fun hHeld => ?_); refine with_tabW laws_FnWays.tab17 laws_FnWays.bits17 (fun HT_ HW_ => ?_)
         generalize wr.drew = w124 at HO_9 HO_403002 BK402 HB hx426_0 hHeld ⊢
         refine pu_ 1 (some 130) ?_ (bz 8 2) rfl rfl (any_of HT_.out (by kernel_rfl)) (fun _ _ _ h => h) (Or.inl ⟨by rfl, ?_⟩) ?_ ?_ ?_; rotate_left; (intro w'; go_simp; with_reducible rfl); rotate_left; (simp only [Act.put, ls1, ls2, ls3, i64_w, i32_w]; rfl)
         refine pu_ 2 (some 131) ?_ (bz 8 6) rfl rfl (any_of HT_.out (by kernel_rfl)) (fun _ _ _ h => h) (Or.inl ⟨by rfl, ?_⟩) ?_ ?_ ?_; rotate_left; (intro w'; go_simp; with_reducible rfl); rotate_left; (simp only [Act.put, ls1, ls2, ls3, i64_w, i32_w]; rfl)
         refine pu_ 3 (some 132) ?_ (bz 8 14) rfl rfl (any_of HT_.out (by kernel_rfl)) (fun _ _ _ h => h) (Or.inl ⟨by rfl, ?_⟩) ?_ ?_ ?_; rotate_left; (intro w'; go_simp; with_reducible rfl); rotate_left; (simp only [Act.put, ls1, ls2, ls3, i64_w, i32_w]; rfl)
         refine pu_ 5 (some 134) ?_ (bz 8 46) rfl rfl (any_of HT_.out (by kernel_rfl)) (fun _ _ _ h => h) (Or.inl ⟨by rfl, ?_⟩) ?_ ?_ ?_; rotate_left; (intro w'; go_simp; with_reducible rfl); rotate_left; (simp only [Act.put, ls1, ls2, ls3, i64_w, i32_w]; rfl)
         refine take_ (i := 0) (N := some 129) (v := ?_) (a' := ?_) (bz 8 47) rfl rfl (take_ofW HT_.out HW_.out (by kernel_rfl)) (fun _ _ _ h => h) (Or.inl ⟨by rfl, ?_⟩) hHeld ?_ ?_; rotate_left; (rintro w' ⟨s0, s1, s2, s3⟩; go_simp; with_reducible rfl); rotate_left; (simp only [Act.put, ls1, ls2, ls3, i64_w, i32_w]; rfl)
         refine take_ (i := 4) (N := some 133) (v := ?_) (a' := ?_) (bz 8 63) rfl rfl (take_ofW HT_.out HW_.out (by kernel_rfl)) (fun _ _ _ h => h) (Or.inl ⟨by rfl, ?_⟩) hHeld ?_ ?_; rotate_left; (rintro w' ⟨s0, s1, s2, s3⟩; go_simp; with_reducible rfl); rotate_left; (simp only [Act.put, ls1, ls2, ls3, i64_w, i32_w]; rfl)
         refine one_ (i := 6) (N := some 135) (bz 8 127) rfl rfl (one_of HT_.out (by kernel_rfl)) (by decide) (fun K hK => ?_)
         refine goes_ Try.func28 (by kernel_rfl) rfl #[.agg #[.int .i64 t395, .int .i64 t396, .slice Ao11 t397.length co11], .int .i64 (rd t423 x10_3), .int .i64 t401] (by rfl) rfl rfl (by (try simp only [mt_, mc_, mn_]); first | done | rfl | (simp only [ld_, lt_]; rfl)) ?_
         with_reducible refine (impl_Days.calls k3 t395 t396 _ _ t397 (rd t423 x10_3) t401 t427 _ ?side1 ?side2 A92.out).mono ?_
         (case side1 => repeat (first | exact (Kd.Q_reads' HO_403002.out).2.2 | (with_reducible first | refine c1_ ?_ _ | refine c2_ ?_ _ | refine c3_ ?_)))
         (case side2 => exact (Kd.Q_reads' HO_403002.out).2.1)
         rintro e w125 ⟨rfl, hb⟩
         have HS3_ := (hb.cell (World.block_lt_of_cell? _ _ (hHeld.2.2.2))).trans (hHeld.2.2.2)
         refine ⟨_, rfl, ?_⟩
         have n0_ := am_ (Kd.R_below (by (with_reducible repeat (first | apply r1_ | apply r2_ | apply r3_)); exact HO_9.out) hb)
         have n1_ := am_ (Kd.Q_below (by (with_reducible repeat (first | apply q1_ | apply q2_ | apply q3_)); exact HO_403002.out) hb)
         have n2_ := am_ (blk_below (g := gb402) (o := .cells #[.int .i64 t395, .int .i64 t396, .slice Ao11 t397.length co11] 37 (0, 0)) (by (with_reducible repeat (first | refine k1_ ?_ _ | refine k2_ ?_ | refine k3_ ?_ _)); exact BK402.out) hb)
         have n3_ := am_ (below_step (by repeat (first | (with_reducible first | exact HB.out | apply b1_ | apply b2_ | apply b3_ | refine below_set ?_ GE402.out) | exact HB.out)) hb)
         replace HO_9 := n0_
         replace HO_403002 := n1_
         replace BK402 := n2_
         replace HB := n3_
         clear n0_ n1_ n2_ n3_
         (try clear hb)
         (try clear hb2)
         (try clear hk)
         (try clear hi)
         refine hK.out _ _ ⟨(blk_cell BK402.out 0).trans rfl, (blk_cell BK402.out 1).trans rfl, (blk_cell BK402.out 2).trans rfl, HS3_⟩ (fun hHeld => ?_)
         clear hK K
         refine norm_ (a' := ?_) ?_ ?_
         rotate_left
         ·show Act.put _ (some 135) _ = _
          simp only [Act.put, ls1, ls2, ls3, i64_w, i32_w]
          rfl
         refine pu_ 7 (some 11) ?_ (bz 8 255) rfl rfl (any_of HT_.out (by kernel_rfl)) (fun _ _ _ h => h) (Or.inl ⟨by rfl, ?_⟩) ?_ ?_ ?_; rotate_left; (intro w'; go_simp; with_reducible rfl); rotate_left; (simp only [Act.put, ls1, ls2, ls3, i64_w, i32_w]; rfl)
         refine done_ (done_of HT_.out (by kernel_rfl)) ?_
         have hcz126_0 : w125.cell? ⟨gb402, 0, none⟩ = some (.int .i64 t395) := (blk_cell BK402.out 0).trans rfl
         have hcz126_1 : w125.cell? ⟨gb402, 1, none⟩ = some (.int .i64 t396) := (blk_cell BK402.out 1).trans rfl
         have hcz126_2 : w125.cell? ⟨gb402, 2, none⟩ = some (.slice Ao11 t397.length co11) := (blk_cell BK402.out 2).trans rfl
         have hfz126_0 := blk_frozen BK402.out 0
         have hfz126_1 := blk_frozen BK402.out 1
         have hfz126_2 := blk_frozen BK402.out 2
         try go_wp2_with (first | (go_at_call 34; (with_reducible refine (impl_IsOpen.calls k3 t395 t396 _ _ t397 t400 false _ ?side1 ?side2 A116.out).mono ?_); (case side1 => repeat (first | exact (Kd.Q_reads' HO_403002.out).2.2 | (with_reducible first | refine c1_ ?_ _ | refine c2_ ?_ _ | refine c3_ ?_))); (case side2 => exact (Kd.Q_reads' HO_403002.out).2.1); rintro e w127 ⟨rfl, hb⟩; have n0_ := am_ (Kd.R_below (by (with_reducible repeat (first | apply r1_ | apply r2_ | apply r3_)); exact HO_9.out) hb); have n1_ := am_ (Kd.Q_below (by (with_reducible repeat (first | apply q1_ | apply q2_ | apply q3_)); exact HO_403002.out) hb); have n2_ := am_ (blk_below (g := gb402) (o := .cells #[.int .i64 t395, .int .i64 t396, .slice Ao11 t397.length co11] 37 (0, 0)) (by (with_reducible repeat (first | refine k1_ ?_ _ | refine k2_ ?_ | refine k3_ ?_ _)); exact BK402.out) hb); have n3_ := am_ (below_step (by repeat (first | (with_reducible first | exact HB.out | apply b1_ | apply b2_ | apply b3_ | refine below_set ?_ GE402.out) | exact HB.out)) hb); replace HO_9 := n0_; replace HO_403002 := n1_; replace BK402 := n2_; replace HB := n3_; clear n0_ n1_ n2_ n3_; (try clear hb); (try clear hb2); (try clear hk); (try clear hi)))
         go_roundg k3
         case measure => have := HJ6.out; have := HK2.out; have := HK3.out; omega
         case rel => exact ⟨(wrap64 (x10_3 + 1)), (by first | rfl | (simp; done) | (simp [*]; done)), H', ⟨by have := HJ6.out; have := HK2.out; have := HK3.out; omega⟩, ⟨by (with_reducible repeat (first | apply r1_ | apply r2_ | apply r3_)); exact HO_9.out⟩, ⟨by (with_reducible repeat (first | apply q1_ | apply q2_ | apply q3_)); exact HO_403002.out⟩, ⟨by (with_reducible repeat (first | refine k1_ ?_ _ | refine k2_ ?_ | refine k3_ ?_ _)); exact BK402.out⟩, ⟨by repeat (first | (with_reducible first | exact HB.out | apply b1_ | apply b2_ | apply b3_ | refine below_set ?_ GE402.out) | exact HB.out)⟩⟩
        rw [if_pos c94] at H
        have c94b0 : decide (t427 < (wrap64 (t403 - 1))) = true := decide_eq_true c94
        clear c94
        by_cases c95 : t400 = t401
        rotate_left
        ·rw [if_neg c95] at H
         have c95b0 : (t400 == t401) = false := beq_eq_false_iff_ne.mpr c95
         have c95b1 : (t400 != t401) = true := bne_iff_ne.mpr c95
         obtain rfl := Option.some.inj H
         obtain ⟨Ao112, co112, eo112⟩ := Kd.R_slice HO_9.out
         subst eo112
         try go_wp2
         have n0_ := am_ (r3_ HO_9.out)
         have n1_ := am_ (q3_ HO_403002.out)
         have n2_ := am_ (k2_ BK402.out)
         have n3_ := am_ (b3_ HB.out)
         replace HO_9 := n0_
         replace HO_403002 := n1_
         replace BK402 := n2_
         replace HB := n3_
         clear n0_ n1_ n2_ n3_
         have p426 : 0 ≤ (x10_3 : Int) := of_decide_eq_true (by first | (with_reducible assumption) | assumption)
         have q426 : x10_3 < (t423.length : Int) := of_decide_eq_true (by first | (with_reducible assumption) | assumption)
         obtain ⟨ad426, e426, hx426_0⟩ := Kd.at_int (Kd.R_reads' HO_9.out).2.2 x10_3 p426 q426
         cases e426
         replace p426 := eq_true p426
         replace q426 := eq_true q426
         refine start_ (n := 8) (S := fun w' => w'.cell? ⟨gb402, 0, none⟩ = some (.int .i64 t395) ∧ w'.cell? ⟨gb402, 1, none⟩ = some (.int .i64 t396) ∧ w'.cell? ⟨gb402, 2, none⟩ = some (.slice Ao11 t397.length co11) ∧ w'.cell? (ad426.add (x10_3).toNat) = some (.int .i64 (rd t423 x10_3))) (ds := []) (bz 8 0) (by kernel_rfl) rfl rfl ⟨(blk_cell BK402.out 0).trans rfl, (blk_cell BK402.out 1).trans rfl, (blk_cell BK402.out 2).trans rfl, hx426_0⟩ (fun hHeld => ?_); refine with_tabW laws_FnWays.tab17 laws_FnWays.bits17 (fun HT_ HW_ => ?_)
         generalize wr.drew = w113 at HO_9 HO_403002 BK402 HB hx426_0 hHeld ⊢
         refine pu_ 1 (some 130) ?_ (bz 8 2) rfl rfl (any_of HT_.out (by kernel_rfl)) (fun _ _ _ h => h) (Or.inl ⟨by rfl, ?_⟩) ?_ ?_ ?_; rotate_left; (intro w'; go_simp; with_reducible rfl); rotate_left; (simp only [Act.put, ls1, ls2, ls3, i64_w, i32_w]; rfl)
         refine pu_ 2 (some 131) ?_ (bz 8 6) rfl rfl (any_of HT_.out (by kernel_rfl)) (fun _ _ _ h => h) (Or.inl ⟨by rfl, ?_⟩) ?_ ?_ ?_; rotate_left; (intro w'; go_simp; with_reducible rfl); rotate_left; (simp only [Act.put, ls1, ls2, ls3, i64_w, i32_w]; rfl)
         refine pu_ 3 (some 132) ?_ (bz 8 14) rfl rfl (any_of HT_.out (by kernel_rfl)) (fun _ _ _ h => h) (Or.inl ⟨by rfl, ?_⟩) ?_ ?_ ?_; rotate_left; (intro w'; go_simp; with_reducible rfl); rotate_left; (simp only [Act.put, ls1, ls2, ls3, i64_w, i32_w]; rfl)
         refine pu_ 5 (some 134) ?_ (bz 8 46) rfl rfl (any_of HT_.out (by kernel_rfl)) (fun _ _ _ h => h) (Or.inl ⟨by rfl, ?_⟩) ?_ ?_ ?_; rotate_left; (intro w'; go_simp; with_reducible rfl); rotate_left; (simp only [Act.put, ls1, ls2, ls3, i64_w, i32_w]; rfl)
         refine take_ (i := 0) (N := some 129) (v := ?_) (a' := ?_) (bz 8 47) rfl rfl (take_ofW HT_.out HW_.out (by kernel_rfl)) (fun _ _ _ h => h) (Or.inl ⟨by rfl, ?_⟩) hHeld ?_ ?_; rotate_left; (rintro w' ⟨s0, s1, s2, s3⟩; go_simp; with_reducible rfl); rotate_left; (simp only [Act.put, ls1, ls2, ls3, i64_w, i32_w]; rfl)
         refine take_ (i := 4) (N := some 133) (v := ?_) (a' := ?_) (bz 8 63) rfl rfl (take_ofW HT_.out HW_.out (by kernel_rfl)) (fun _ _ _ h => h) (Or.inl ⟨by rfl, ?_⟩) hHeld ?_ ?_; rotate_left; (rintro w' ⟨s0, s1, s2, s3⟩; go_simp; with_reducible rfl); rotate_left; (simp only [Act.put, ls1, ls2, ls3, i64_w, i32_w]; rfl)
         refine one_ (i := 6) (N := some 135) (bz 8 127) rfl rfl (one_of HT_.out (by kernel_rfl)) (by decide) (fun K hK => ?_)
         refine goes_ Try.func28 (by kernel_rfl) rfl #[.agg #[.int .i64 t395, .int .i64 t396, .slice Ao11 t397.length co11], .int .i64 (rd t423 x10_3), .int .i64 t401] (by rfl) rfl rfl (by (try simp only [mt_, mc_, mn_]); first | done | rfl | (simp only [ld_, lt_]; rfl)) ?_
         with_reducible refine (impl_Days.calls k3 t395 t396 _ _ t397 (rd t423 x10_3) t401 t427 _ ?side1 ?side2 A92.out).mono ?_
         (case side1 => repeat (first | exact (Kd.Q_reads' HO_403002.out).2.2 | (with_reducible first | refine c1_ ?_ _ | refine c2_ ?_ _ | refine c3_ ?_)))
         (case side2 => exact (Kd.Q_reads' HO_403002.out).2.1)
         rintro e w114 ⟨rfl, hb⟩
         have HS3_ := (hb.cell (World.block_lt_of_cell? _ _ (hHeld.2.2.2))).trans (hHeld.2.2.2)
         refine ⟨_, rfl, ?_⟩
         have n0_ := am_ (Kd.R_below (by (with_reducible repeat (first | apply r1_ | apply r2_ | apply r3_)); exact HO_9.out) hb)
         have n1_ := am_ (Kd.Q_below (by (with_reducible repeat (first | apply q1_ | apply q2_ | apply q3_)); exact HO_403002.out) hb)
         have n2_ := am_ (blk_below (g := gb402) (o := .cells #[.int .i64 t395, .int .i64 t396, .slice Ao11 t397.length co11] 37 (0, 0)) (by (with_reducible repeat (first | refine k1_ ?_ _ | refine k2_ ?_ | refine k3_ ?_ _)); exact BK402.out) hb)
         have n3_ := am_ (below_step (by repeat (first | (with_reducible first | exact HB.out | apply b1_ | apply b2_ | apply b3_ | refine below_set ?_ GE402.out) | exact HB.out)) hb)
         replace HO_9 := n0_
         replace HO_403002 := n1_
         replace BK402 := n2_
         replace HB := n3_
         clear n0_ n1_ n2_ n3_
         (try clear hb)
         (try clear hb2)
         (try clear hk)
         (try clear hi)
         refine hK.out _ _ ⟨(blk_cell BK402.out 0).trans rfl, (blk_cell BK402.out 1).trans rfl, (blk_cell BK402.out 2).trans rfl, HS3_⟩ (fun hHeld => ?_)
         clear hK K
         refine norm_ (a' := ?_) ?_ ?_
         rotate_left
         ·show Act.put _ (some 135) _ = _
          simp only [Act.put, ls1, ls2, ls3, i64_w, i32_w]
          rfl
         refine pu_ 7 (some 11) ?_ (bz 8 255) rfl rfl (any_of HT_.out (by kernel_rfl)) (fun _ _ _ h => h) (Or.inl ⟨by rfl, ?_⟩) ?_ ?_ ?_; rotate_left; (intro w'; go_simp; with_reducible rfl); rotate_left; (simp only [Act.put, ls1, ls2, ls3, i64_w, i32_w]; rfl)
         refine done_ (done_of HT_.out (by kernel_rfl)) ?_
         try go_wp2
         go_ret
         exact ⟨by first | rfl | (simp [errW_none, errW_some] <;> rfl) | (simp [*, errW_none, errW_some] <;> rfl), by repeat (first | (with_reducible first | exact HB.out | apply b1_ | apply b2_ | apply b3_ | refine below_set ?_ GE402.out) | exact HB.out)⟩
        rw [if_pos c95] at H
        have c95b0 : (t400 == t401) = true := beq_iff_eq.mpr c95
        have c95b1 : (t400 != t401) = false := bne_eq_false_iff_eq.mpr c95
        clear c95
        by_cases c96 : t427 < 0
        rotate_left
        ·rw [if_neg c96] at H
         have c96b0 : decide (t427 < 0) = false := decide_eq_false c96
         clear c96
         have H' := am_ H
         clear H
         obtain ⟨Ao109, co109, eo109⟩ := Kd.R_slice HO_9.out
         subst eo109
         try go_wp2
         have n0_ := am_ (r3_ HO_9.out)
         have n1_ := am_ (q3_ HO_403002.out)
         have n2_ := am_ (k2_ BK402.out)
         have n3_ := am_ (b3_ HB.out)
         replace HO_9 := n0_
         replace HO_403002 := n1_
         replace BK402 := n2_
         replace HB := n3_
         clear n0_ n1_ n2_ n3_
         have p426 : 0 ≤ (x10_3 : Int) := of_decide_eq_true (by first | (with_reducible assumption) | assumption)
         have q426 : x10_3 < (t423.length : Int) := of_decide_eq_true (by first | (with_reducible assumption) | assumption)
         obtain ⟨ad426, e426, hx426_0⟩ := Kd.at_int (Kd.R_reads' HO_9.out).2.2 x10_3 p426 q426
         cases e426
         replace p426 := eq_true p426
         replace q426 := eq_true q426
         refine start_ (n := 8) (S := fun w' => w'.cell? ⟨gb402, 0, none⟩ = some (.int .i64 t395) ∧ w'.cell? ⟨gb402, 1, none⟩ = some (.int .i64 t396) ∧ w'.cell? ⟨gb402, 2, none⟩ = some (.slice Ao11 t397.length co11) ∧ w'.cell? (ad426.add (x10_3).toNat) = some (.int .i64 (rd t423 x10_3))) (ds := []) (bz 8 0) (by kernel_rfl) rfl rfl ⟨(blk_cell BK402.out 0).trans rfl, (blk_cell BK402.out 1).trans rfl, (blk_cell BK402.out 2).trans rfl, hx426_0⟩ (fun hHeld => ?_); refine with_tabW laws_FnWays.tab17 laws_FnWays.bits17 (fun HT_ HW_ => ?_)
         generalize wr.drew = w110 at HO_9 HO_403002 BK402 HB hx426_0 hHeld ⊢
         refine pu_ 1 (some 130) ?_ (bz 8 2) rfl rfl (any_of HT_.out (by kernel_rfl)) (fun _ _ _ h => h) (Or.inl ⟨by rfl, ?_⟩) ?_ ?_ ?_; rotate_left; (intro w'; go_simp; with_reducible rfl); rotate_left; (simp only [Act.put, ls1, ls2, ls3, i64_w, i32_w]; rfl)
         refine pu_ 2 (some 131) ?_ (bz 8 6) rfl rfl (any_of HT_.out (by kernel_rfl)) (fun _ _ _ h => h) (Or.inl ⟨by rfl, ?_⟩) ?_ ?_ ?_; rotate_left; (intro w'; go_simp; with_reducible rfl); rotate_left; (simp only [Act.put, ls1, ls2, ls3, i64_w, i32_w]; rfl)
         refine pu_ 3 (some 132) ?_ (bz 8 14) rfl rfl (any_of HT_.out (by kernel_rfl)) (fun _ _ _ h => h) (Or.inl ⟨by rfl, ?_⟩) ?_ ?_ ?_; rotate_left; (intro w'; go_simp; with_reducible rfl); rotate_left; (simp only [Act.put, ls1, ls2, ls3, i64_w, i32_w]; rfl)
         refine pu_ 5 (some 134) ?_ (bz 8 46) rfl rfl (any_of HT_.out (by kernel_rfl)) (fun _ _ _ h => h) (Or.inl ⟨by rfl, ?_⟩) ?_ ?_ ?_; rotate_left; (intro w'; go_simp; with_reducible rfl); rotate_left; (simp only [Act.put, ls1, ls2, ls3, i64_w, i32_w]; rfl)
         refine take_ (i := 0) (N := some 129) (v := ?_) (a' := ?_) (bz 8 47) rfl rfl (take_ofW HT_.out HW_.out (by kernel_rfl)) (fun _ _ _ h => h) (Or.inl ⟨by rfl, ?_⟩) hHeld ?_ ?_; rotate_left; (rintro w' ⟨s0, s1, s2, s3⟩; go_simp; with_reducible rfl); rotate_left; (simp only [Act.put, ls1, ls2, ls3, i64_w, i32_w]; rfl)
         refine take_ (i := 4) (N := some 133) (v := ?_) (a' := ?_) (bz 8 63) rfl rfl (take_ofW HT_.out HW_.out (by kernel_rfl)) (fun _ _ _ h => h) (Or.inl ⟨by rfl, ?_⟩) hHeld ?_ ?_; rotate_left; (rintro w' ⟨s0, s1, s2, s3⟩; go_simp; with_reducible rfl); rotate_left; (simp only [Act.put, ls1, ls2, ls3, i64_w, i32_w]; rfl)
         refine one_ (i := 6) (N := some 135) (bz 8 127) rfl rfl (one_of HT_.out (by kernel_rfl)) (by decide) (fun K hK => ?_)
         refine goes_ Try.func28 (by kernel_rfl) rfl #[.agg #[.int .i64 t395, .int .i64 t396, .slice Ao11 t397.length co11], .int .i64 (rd t423 x10_3), .int .i64 t401] (by rfl) rfl rfl (by (try simp only [mt_, mc_, mn_]); first | done | rfl | (simp only [ld_, lt_]; rfl)) ?_
         with_reducible refine (impl_Days.calls k3 t395 t396 _ _ t397 (rd t423 x10_3) t401 t427 _ ?side1 ?side2 A92.out).mono ?_
         (case side1 => repeat (first | exact (Kd.Q_reads' HO_403002.out).2.2 | (with_reducible first | refine c1_ ?_ _ | refine c2_ ?_ _ | refine c3_ ?_)))
         (case side2 => exact (Kd.Q_reads' HO_403002.out).2.1)
         rintro e w111 ⟨rfl, hb⟩
         have HS3_ := (hb.cell (World.block_lt_of_cell? _ _ (hHeld.2.2.2))).trans (hHeld.2.2.2)
         refine ⟨_, rfl, ?_⟩
         have n0_ := am_ (Kd.R_below (by (with_reducible repeat (first | apply r1_ | apply r2_ | apply r3_)); exact HO_9.out) hb)
         have n1_ := am_ (Kd.Q_below (by (with_reducible repeat (first | apply q1_ | apply q2_ | apply q3_)); exact HO_403002.out) hb)
         have n2_ := am_ (blk_below (g := gb402) (o := .cells #[.int .i64 t395, .int .i64 t396, .slice Ao11 t397.length co11] 37 (0, 0)) (by (with_reducible repeat (first | refine k1_ ?_ _ | refine k2_ ?_ | refine k3_ ?_ _)); exact BK402.out) hb)
         have n3_ := am_ (below_step (by repeat (first | (with_reducible first | exact HB.out | apply b1_ | apply b2_ | apply b3_ | refine below_set ?_ GE402.out) | exact HB.out)) hb)
         replace HO_9 := n0_
         replace HO_403002 := n1_
         replace BK402 := n2_
         replace HB := n3_
         clear n0_ n1_ n2_ n3_
         (try clear hb)
         (try clear hb2)
         (try clear hk)
         (try clear hi)
         refine hK.out _ _ ⟨(blk_cell BK402.out 0).trans rfl, (blk_cell BK402.out 1).trans rfl, (blk_cell BK402.out 2).trans rfl, HS3_⟩ (fun hHeld => ?_)
         clear hK K
         refine norm_ (a' := ?_) ?_ ?_
         rotate_left
         ·show Act.put _ (some 135) _ = _
          simp only [Act.put, ls1, ls2, ls3, i64_w, i32_w]
          rfl
         refine pu_ 7 (some 11) ?_ (bz 8 255) rfl rfl (any_of HT_.out (by kernel_rfl)) (fun _ _ _ h => h) (Or.inl ⟨by rfl, ?_⟩) ?_ ?_ ?_; rotate_left; (intro w'; go_simp; with_reducible rfl); rotate_left; (simp only [Act.put, ls1, ls2, ls3, i64_w, i32_w]; rfl)
         refine done_ (done_of HT_.out (by kernel_rfl)) ?_
         try go_wp2
         go_roundg k3
         case measure => have := HJ6.out; have := HK2.out; have := HK3.out; omega
         case rel => exact ⟨(wrap64 (x10_3 + 1)), (by first | rfl | (simp; done) | (simp [*]; done)), H', ⟨by have := HJ6.out; have := HK2.out; have := HK3.out; omega⟩, ⟨by (with_reducible repeat (first | apply r1_ | apply r2_ | apply r3_)); exact HO_9.out⟩, ⟨by (with_reducible repeat (first | apply q1_ | apply q2_ | apply q3_)); exact HO_403002.out⟩, ⟨by (with_reducible repeat (first | refine k1_ ?_ _ | refine k2_ ?_ | refine k3_ ?_ _)); exact BK402.out⟩, ⟨by repeat (first | (with_reducible first | exact HB.out | apply b1_ | apply b2_ | apply b3_ | refine below_set ?_ GE402.out) | exact HB.out)⟩⟩
        rw [if_pos c96] at H
        have c96b0 : decide (t427 < 0) = true := decide_eq_true c96
        clear c96
        replace H := Option.bind_eq_some_iff.mp H
        obtain ⟨t428, A970, H⟩ := H
        replace H : (if t428 = true then (some false) else (laws_FnWays.l1 k3 l0 t400 t401 t403 t423 (wrap64 (x10_3 + 1)) t395 t396 t397)) = some r := H
        have A97 := am_ A970
        clear A970
        by_cases c98 : t428 = true
        ·subst c98
         have H1 : (some false) = some r := by rw [if_pos rfl] at H; exact H
         clear H
         have H := H1
         clear H1
         obtain rfl := Option.some.inj H
         obtain ⟨Ao99, co99, eo99⟩ := Kd.R_slice HO_9.out
         subst eo99
         try go_wp2
         have n0_ := am_ (r3_ HO_9.out)
         have n1_ := am_ (q3_ HO_403002.out)
         have n2_ := am_ (k2_ BK402.out)
         have n3_ := am_ (b3_ HB.out)
         replace HO_9 := n0_
         replace HO_403002 := n1_
         replace BK402 := n2_
         replace HB := n3_
         clear n0_ n1_ n2_ n3_
         have p426 : 0 ≤ (x10_3 : Int) := of_decide_eq_true (by first | (with_reducible assumption) | assumption)
         have q426 : x10_3 < (t423.length : Int) := of_decide_eq_true (by first | (with_reducible assumption) | assumption)
         obtain ⟨ad426, e426, hx426_0⟩ := Kd.at_int (Kd.R_reads' HO_9.out).2.2 x10_3 p426 q426
         cases e426
         replace p426 := eq_true p426
         replace q426 := eq_true q426
         refine start_ (n := 8) (S := fun w' => w'.cell? ⟨gb402, 0, none⟩ = some (.int .i64 t395) ∧ w'.cell? ⟨gb402, 1, none⟩ = some (.int .i64 t396) ∧ w'.cell? ⟨gb402, 2, none⟩ = some (.slice Ao11 t397.length co11) ∧ w'.cell? (ad426.add (x10_3).toNat) = some (.int .i64 (rd t423 x10_3))) (ds := []) (bz 8 0) (by kernel_rfl) rfl rfl ⟨(blk_cell BK402.out 0).trans rfl, (blk_cell BK402.out 1).trans rfl, (blk_cell BK402.out 2).trans rfl, hx426_0⟩ (fun hHeld => ?_); refine with_tabW laws_FnWays.tab17 laws_FnWays.bits17 (fun HT_ HW_ => ?_)
         generalize wr.drew = w100 at HO_9 HO_403002 BK402 HB hx426_0 hHeld ⊢
         refine pu_ 1 (some 130) ?_ (bz 8 2) rfl rfl (any_of HT_.out (by kernel_rfl)) (fun _ _ _ h => h) (Or.inl ⟨by rfl, ?_⟩) ?_ ?_ ?_; rotate_left; (intro w'; go_simp; with_reducible rfl); rotate_left; (simp only [Act.put, ls1, ls2, ls3, i64_w, i32_w]; rfl)
         refine pu_ 2 (some 131) ?_ (bz 8 6) rfl rfl (any_of HT_.out (by kernel_rfl)) (fun _ _ _ h => h) (Or.inl ⟨by rfl, ?_⟩) ?_ ?_ ?_; rotate_left; (intro w'; go_simp; with_reducible rfl); rotate_left; (simp only [Act.put, ls1, ls2, ls3, i64_w, i32_w]; rfl)
         refine pu_ 3 (some 132) ?_ (bz 8 14) rfl rfl (any_of HT_.out (by kernel_rfl)) (fun _ _ _ h => h) (Or.inl ⟨by rfl, ?_⟩) ?_ ?_ ?_; rotate_left; (intro w'; go_simp; with_reducible rfl); rotate_left; (simp only [Act.put, ls1, ls2, ls3, i64_w, i32_w]; rfl)
         refine pu_ 5 (some 134) ?_ (bz 8 46) rfl rfl (any_of HT_.out (by kernel_rfl)) (fun _ _ _ h => h) (Or.inl ⟨by rfl, ?_⟩) ?_ ?_ ?_; rotate_left; (intro w'; go_simp; with_reducible rfl); rotate_left; (simp only [Act.put, ls1, ls2, ls3, i64_w, i32_w]; rfl)
         refine take_ (i := 0) (N := some 129) (v := ?_) (a' := ?_) (bz 8 47) rfl rfl (take_ofW HT_.out HW_.out (by kernel_rfl)) (fun _ _ _ h => h) (Or.inl ⟨by rfl, ?_⟩) hHeld ?_ ?_; rotate_left; (rintro w' ⟨s0, s1, s2, s3⟩; go_simp; with_reducible rfl); rotate_left; (simp only [Act.put, ls1, ls2, ls3, i64_w, i32_w]; rfl)
         refine take_ (i := 4) (N := some 133) (v := ?_) (a' := ?_) (bz 8 63) rfl rfl (take_ofW HT_.out HW_.out (by kernel_rfl)) (fun _ _ _ h => h) (Or.inl ⟨by rfl, ?_⟩) hHeld ?_ ?_; rotate_left; (rintro w' ⟨s0, s1, s2, s3⟩; go_simp; with_reducible rfl); rotate_left; (simp only [Act.put, ls1, ls2, ls3, i64_w, i32_w]; rfl)
         refine one_ (i := 6) (N := some 135) (bz 8 127) rfl rfl (one_of HT_.out (by kernel_rfl)) (by decide) (fun K hK => ?_)
         refine goes_ Try.func28 (by kernel_rfl) rfl #[.agg #[.int .i64 t395, .int .i64 t396, .slice Ao11 t397.length co11], .int .i64 (rd t423 x10_3), .int .i64 t401] (by rfl) rfl rfl (by (try simp only [mt_, mc_, mn_]); first | done | rfl | (simp only [ld_, lt_]; rfl)) ?_
         with_reducible refine (impl_Days.calls k3 t395 t396 _ _ t397 (rd t423 x10_3) t401 t427 _ ?side1 ?side2 A92.out).mono ?_
         (case side1 => repeat (first | exact (Kd.Q_reads' HO_403002.out).2.2 | (with_reducible first | refine c1_ ?_ _ | refine c2_ ?_ _ | refine c3_ ?_)))
         (case side2 => exact (Kd.Q_reads' HO_403002.out).2.1)
         rintro e w101 ⟨rfl, hb⟩
         have HS3_ := (hb.cell (World.block_lt_of_cell? _ _ (hHeld.2.2.2))).trans (hHeld.2.2.2)
         refine ⟨_, rfl, ?_⟩
         have n0_ := am_ (Kd.R_below (by (with_reducible repeat (first | apply r1_ | apply r2_ | apply r3_)); exact HO_9.out) hb)
         have n1_ := am_ (Kd.Q_below (by (with_reducible repeat (first | apply q1_ | apply q2_ | apply q3_)); exact HO_403002.out) hb)
         have n2_ := am_ (blk_below (g := gb402) (o := .cells #[.int .i64 t395, .int .i64 t396, .slice Ao11 t397.length co11] 37 (0, 0)) (by (with_reducible repeat (first | refine k1_ ?_ _ | refine k2_ ?_ | refine k3_ ?_ _)); exact BK402.out) hb)
         have n3_ := am_ (below_step (by repeat (first | (with_reducible first | exact HB.out | apply b1_ | apply b2_ | apply b3_ | refine below_set ?_ GE402.out) | exact HB.out)) hb)
         replace HO_9 := n0_
         replace HO_403002 := n1_
         replace BK402 := n2_
         replace HB := n3_
         clear n0_ n1_ n2_ n3_
         (try clear hb)
         (try clear hb2)
         (try clear hk)
         (try clear hi)
         refine hK.out _ _ ⟨(blk_cell BK402.out 0).trans rfl, (blk_cell BK402.out 1).trans rfl, (blk_cell BK402.out 2).trans rfl, HS3_⟩ (fun hHeld => ?_)
         clear hK K
         refine norm_ (a' := ?_) ?_ ?_
         rotate_left
         ·show Act.put _ (some 135) _ = _
          simp only [Act.put, ls1, ls2, ls3, i64_w, i32_w]
          rfl
         refine pu_ 7 (some 11) ?_ (bz 8 255) rfl rfl (any_of HT_.out (by kernel_rfl)) (fun _ _ _ h => h) (Or.inl ⟨by rfl, ?_⟩) ?_ ?_ ?_; rotate_left; (intro w'; go_simp; with_reducible rfl); rotate_left; (simp only [Act.put, ls1, ls2, ls3, i64_w, i32_w]; rfl)
         refine done_ (done_of HT_.out (by kernel_rfl)) ?_
         have hcz102_0 : w101.cell? ⟨gb402, 0, none⟩ = some (.int .i64 t395) := (blk_cell BK402.out 0).trans rfl
         have hcz102_1 : w101.cell? ⟨gb402, 1, none⟩ = some (.int .i64 t396) := (blk_cell BK402.out 1).trans rfl
         have hcz102_2 : w101.cell? ⟨gb402, 2, none⟩ = some (.slice Ao11 t397.length co11) := (blk_cell BK402.out 2).trans rfl
         have hfz102_0 := blk_frozen BK402.out 0
         have hfz102_1 := blk_frozen BK402.out 1
         have hfz102_2 := blk_frozen BK402.out 2
         try go_wp2_with (first | (go_at_call 34; (with_reducible refine (impl_IsOpen.calls k3 t395 t396 _ _ t397 t400 true _ ?side1 ?side2 A97.out).mono ?_); (case side1 => repeat (first | exact (Kd.Q_reads' HO_403002.out).2.2 | (with_reducible first | refine c1_ ?_ _ | refine c2_ ?_ _ | refine c3_ ?_))); (case side2 => exact (Kd.Q_reads' HO_403002.out).2.1); rintro e w103 ⟨rfl, hb⟩; have n0_ := am_ (Kd.R_below (by (with_reducible repeat (first | apply r1_ | apply r2_ | apply r3_)); exact HO_9.out) hb); have n1_ := am_ (Kd.Q_below (by (with_reducible repeat (first | apply q1_ | apply q2_ | apply q3_)); exact HO_403002.out) hb); have n2_ := am_ (blk_below (g := gb402) (o := .cells #[.int .i64 t395, .int .i64 t396, .slice Ao11 t397.length co11] 37 (0, 0)) (by (with_reducible repeat (first | refine k1_ ?_ _ | refine k2_ ?_ | refine k3_ ?_ _)); exact BK402.out) hb); have n3_ := am_ (below_step (by repeat (first | (with_reducible first | exact HB.out | apply b1_ | apply b2_ | apply b3_ | refine below_set ?_ GE402.out) | exact HB.out)) hb); replace HO_9 := n0_; replace HO_403002 := n1_; replace BK402 := n2_; replace HB := n3_; clear n0_ n1_ n2_ n3_; (try clear hb); (try clear hb2); (try clear hk); (try clear hi)))
         go_ret
         exact ⟨by first | rfl | (simp [errW_none, errW_some] <;> rfl) | (simp [*, errW_none, errW_some] <;> rfl), by repeat (first | (with_reducible first | exact HB.out | apply b1_ | apply b2_ | apply b3_ | refine below_set ?_ GE402.out) | exact HB.out)⟩
        replace c98 := Bool.eq_false_iff.mpr c98
        subst c98
        have H1 : (laws_FnWays.l1 k3 l0 t400 t401 t403 t423 (wrap64 (x10_3 + 1)) t395 t396 t397) = some r := by rw [if_neg (show ¬ (false = true) by decide)] at H; exact H
        clear H
        have H := H1
        clear H1
        have H' := am_ H
        clear H
        obtain ⟨Ao104, co104, eo104⟩ := Kd.R_slice HO_9.out
        subst eo104
        try go_wp2
        have n0_ := am_ (r3_ HO_9.out)
        have n1_ := am_ (q3_ HO_403002.out)
        have n2_ := am_ (k2_ BK402.out)
        have n3_ := am_ (b3_ HB.out)
        replace HO_9 := n0_
        replace HO_403002 := n1_
        replace BK402 := n2_
        replace HB := n3_
        clear n0_ n1_ n2_ n3_
        have p426 : 0 ≤ (x10_3 : Int) := of_decide_eq_true (by first | (with_reducible assumption) | assumption)
        have q426 : x10_3 < (t423.length : Int) := of_decide_eq_true (by first | (with_reducible assumption) | assumption)
        obtain ⟨ad426, e426, hx426_0⟩ := Kd.at_int (Kd.R_reads' HO_9.out).2.2 x10_3 p426 q426
        cases e426
        replace p426 := eq_true p426
        replace q426 := eq_true q426
        refine start_ (n := 8) (S := fun w' => w'.cell? ⟨gb402, 0, none⟩ = some (.int .i64 t395) ∧ w'.cell? ⟨gb402, 1, none⟩ = some (.int .i64 t396) ∧ w'.cell? ⟨gb402, 2, none⟩ = some (.slice Ao11 t397.length co11) ∧ w'.cell? (ad426.add (x10_3).toNat) = some (.int .i64 (rd t423 x10_3))) (ds := []) (bz 8 0) (by kernel_rfl) rfl rfl ⟨(blk_cell BK402.out 0).trans rfl, (blk_cell BK402.out 1).trans rfl, (blk_cell BK402.out 2).trans rfl, hx426_0⟩ (fun hHeld => ?_); refine with_tabW laws_FnWays.tab17 laws_FnWays.bits17 (fun HT_ HW_ => ?_)
        generalize wr.drew = w105 at HO_9 HO_403002 BK402 HB hx426_0 hHeld ⊢
        refine pu_ 1 (some 130) ?_ (bz 8 2) rfl rfl (any_of HT_.out (by kernel_rfl)) (fun _ _ _ h => h) (Or.inl ⟨by rfl, ?_⟩) ?_ ?_ ?_; rotate_left; (intro w'; go_simp; with_reducible rfl); rotate_left; (simp only [Act.put, ls1, ls2, ls3, i64_w, i32_w]; rfl)
        refine pu_ 2 (some 131) ?_ (bz 8 6) rfl rfl (any_of HT_.out (by kernel_rfl)) (fun _ _ _ h => h) (Or.inl ⟨by rfl, ?_⟩) ?_ ?_ ?_; rotate_left; (intro w'; go_simp; with_reducible rfl); rotate_left; (simp only [Act.put, ls1, ls2, ls3, i64_w, i32_w]; rfl)
        refine pu_ 3 (some 132) ?_ (bz 8 14) rfl rfl (any_of HT_.out (by kernel_rfl)) (fun _ _ _ h => h) (Or.inl ⟨by rfl, ?_⟩) ?_ ?_ ?_; rotate_left; (intro w'; go_simp; with_reducible rfl); rotate_left; (simp only [Act.put, ls1, ls2, ls3, i64_w, i32_w]; rfl)
        refine pu_ 5 (some 134) ?_ (bz 8 46) rfl rfl (any_of HT_.out (by kernel_rfl)) (fun _ _ _ h => h) (Or.inl ⟨by rfl, ?_⟩) ?_ ?_ ?_; rotate_left; (intro w'; go_simp; with_reducible rfl); rotate_left; (simp only [Act.put, ls1, ls2, ls3, i64_w, i32_w]; rfl)
        refine take_ (i := 0) (N := some 129) (v := ?_) (a' := ?_) (bz 8 47) rfl rfl (take_ofW HT_.out HW_.out (by kernel_rfl)) (fun _ _ _ h => h) (Or.inl ⟨by rfl, ?_⟩) hHeld ?_ ?_; rotate_left; (rintro w' ⟨s0, s1, s2, s3⟩; go_simp; with_reducible rfl); rotate_left; (simp only [Act.put, ls1, ls2, ls3, i64_w, i32_w]; rfl)
        refine take_ (i := 4) (N := some 133) (v := ?_) (a' := ?_) (bz 8 63) rfl rfl (take_ofW HT_.out HW_.out (by kernel_rfl)) (fun _ _ _ h => h) (Or.inl ⟨by rfl, ?_⟩) hHeld ?_ ?_; rotate_left; (rintro w' ⟨s0, s1, s2, s3⟩; go_simp; with_reducible rfl); rotate_left; (simp only [Act.put, ls1, ls2, ls3, i64_w, i32_w]; rfl)
        refine one_ (i := 6) (N := some 135) (bz 8 127) rfl rfl (one_of HT_.out (by kernel_rfl)) (by decide) (fun K hK => ?_)
        refine goes_ Try.func28 (by kernel_rfl) rfl #[.agg #[.int .i64 t395, .int .i64 t396, .slice Ao11 t397.length co11], .int .i64 (rd t423 x10_3), .int .i64 t401] (by rfl) rfl rfl (by (try simp only [mt_, mc_, mn_]); first | done | rfl | (simp only [ld_, lt_]; rfl)) ?_
        with_reducible refine (impl_Days.calls k3 t395 t396 _ _ t397 (rd t423 x10_3) t401 t427 _ ?side1 ?side2 A92.out).mono ?_
        (case side1 => repeat (first | exact (Kd.Q_reads' HO_403002.out).2.2 | (with_reducible first | refine c1_ ?_ _ | refine c2_ ?_ _ | refine c3_ ?_)))
        (case side2 => exact (Kd.Q_reads' HO_403002.out).2.1)
        rintro e w106 ⟨rfl, hb⟩
        have HS3_ := (hb.cell (World.block_lt_of_cell? _ _ (hHeld.2.2.2))).trans (hHeld.2.2.2)
        refine ⟨_, rfl, ?_⟩
        have n0_ := am_ (Kd.R_below (by (with_reducible repeat (first | apply r1_ | apply r2_ | apply r3_)); exact HO_9.out) hb)
        have n1_ := am_ (Kd.Q_below (by (with_reducible repeat (first | apply q1_ | apply q2_ | apply q3_)); exact HO_403002.out) hb)
        have n2_ := am_ (blk_below (g := gb402) (o := .cells #[.int .i64 t395, .int .i64 t396, .slice Ao11 t397.length co11] 37 (0, 0)) (by (with_reducible repeat (first | refine k1_ ?_ _ | refine k2_ ?_ | refine k3_ ?_ _)); exact BK402.out) hb)
        have n3_ := am_ (below_step (by repeat (first | (with_reducible first | exact HB.out | apply b1_ | apply b2_ | apply b3_ | refine below_set ?_ GE402.out) | exact HB.out)) hb)
        replace HO_9 := n0_
        replace HO_403002 := n1_
        replace BK402 := n2_
        replace HB := n3_
        clear n0_ n1_ n2_ n3_
        (try clear hb)
        (try clear hb2)
        (try clear hk)
        (try clear hi)
        refine hK.out _ _ ⟨(blk_cell BK402.out 0).trans rfl, (blk_cell BK402.out 1).trans rfl, (blk_cell BK402.out 2).trans rfl, HS3_⟩ (fun hHeld => ?_)
        clear hK K
        refine norm_ (a' := ?_) ?_ ?_
        rotate_left
        ·show Act.put _ (some 135) _ = _
         simp only [Act.put, ls1, ls2, ls3, i64_w, i32_w]
         rfl
        refine pu_ 7 (some 11) ?_ (bz 8 255) rfl rfl (any_of HT_.out (by kernel_rfl)) (fun _ _ _ h => h) (Or.inl ⟨by rfl, ?_⟩) ?_ ?_ ?_; rotate_left; (intro w'; go_simp; with_reducible rfl); rotate_left; (simp only [Act.put, ls1, ls2, ls3, i64_w, i32_w]; rfl)
        refine done_ (done_of HT_.out (by kernel_rfl)) ?_
        have hcz107_0 : w106.cell? ⟨gb402, 0, none⟩ = some (.int .i64 t395) := (blk_cell BK402.out 0).trans rfl
        have hcz107_1 : w106.cell? ⟨gb402, 1, none⟩ = some (.int .i64 t396) := (blk_cell BK402.out 1).trans rfl
        have hcz107_2 : w106.cell? ⟨gb402, 2, none⟩ = some (.slice Ao11 t397.length co11) := (blk_cell BK402.out 2).trans rfl
        have hfz107_0 := blk_frozen BK402.out 0
        have hfz107_1 := blk_frozen BK402.out 1
        have hfz107_2 := blk_frozen BK402.out 2
        try go_wp2_with (first | (go_at_call 34; (with_reducible refine (impl_IsOpen.calls k3 t395 t396 _ _ t397 t400 false _ ?side1 ?side2 A97.out).mono ?_); (case side1 => repeat (first | exact (Kd.Q_reads' HO_403002.out).2.2 | (with_reducible first | refine c1_ ?_ _ | refine c2_ ?_ _ | refine c3_ ?_))); (case side2 => exact (Kd.Q_reads' HO_403002.out).2.1); rintro e w108 ⟨rfl, hb⟩; have n0_ := am_ (Kd.R_below (by (with_reducible repeat (first | apply r1_ | apply r2_ | apply r3_)); exact HO_9.out) hb); have n1_ := am_ (Kd.Q_below (by (with_reducible repeat (first | apply q1_ | apply q2_ | apply q3_)); exact HO_403002.out) hb); have n2_ := am_ (blk_below (g := gb402) (o := .cells #[.int .i64 t395, .int .i64 t396, .slice Ao11 t397.length co11] 37 (0, 0)) (by (with_reducible repeat (first | refine k1_ ?_ _ | refine k2_ ?_ | refine k3_ ?_ _)); exact BK402.out) hb); have n3_ := am_ (below_step (by repeat (first | (with_reducible first | exact HB.out | apply b1_ | apply b2_ | apply b3_ | refine below_set ?_ GE402.out) | exact HB.out)) hb); replace HO_9 := n0_; replace HO_403002 := n1_; replace BK402 := n2_; replace HB := n3_; clear n0_ n1_ n2_ n3_; (try clear hb); (try clear hb2); (try clear hk); (try clear hi)))
        go_roundg k3
        case measure => have := HJ6.out; have := HK2.out; have := HK3.out; omega
        case rel => exact ⟨(wrap64 (x10_3 + 1)), (by first | rfl | (simp; done) | (simp [*]; done)), H', ⟨by have := HJ6.out; have := HK2.out; have := HK3.out; omega⟩, ⟨by (with_reducible repeat (first | apply r1_ | apply r2_ | apply r3_)); exact HO_9.out⟩, ⟨by (with_reducible repeat (first | apply q1_ | apply q2_ | apply q3_)); exact HO_403002.out⟩, ⟨by (with_reducible repeat (first | refine k1_ ?_ _ | refine k2_ ?_ | refine k3_ ?_ _)); exact BK402.out⟩, ⟨by repeat (first | (with_reducible first | exact HB.out | apply b1_ | apply b2_ | apply b3_ | refine below_set ?_ GE402.out) | exact HB.out)⟩⟩
       rw [if_neg c90] at H
       have c90b0 : decide (x10_3 < (t423.length : Int)) = false := decide_eq_false c90
       clear c90
       replace H := Option.bind_eq_some_iff.mp H
       obtain ⟨⟨t430, t431, t432, t435, t436⟩, A1340, H⟩ := H
       replace H : ((impl_Reach.f k3 t430 t431 t432 t435 t436).bind fun t438 => ((laws_ascends.f k3 t438).bind fun t441 => (if t441 = true then ((impl_Reach.f k3 t430 t431 t432 t435 (wrap64 (t436 - 1))).bind fun t442 => ((laws_within.f k3 t442 t438).bind fun t445 => (if t445 = true then (laws_FnWays.j3 k3 l0 false) else (laws_FnWays.j3 k3 l0 (decide (t436 > (-9))))))) else (laws_FnWays.j3 k3 l0 true)))) = some r := H
       have A134 := am_ A1340
       clear A1340
       replace H := Option.bind_eq_some_iff.mp H
       obtain ⟨t438, A1350, H⟩ := H
       replace H : ((laws_ascends.f k3 t438).bind fun t441 => (if t441 = true then ((impl_Reach.f k3 t430 t431 t432 t435 (wrap64 (t436 - 1))).bind fun t442 => ((laws_within.f k3 t442 t438).bind fun t445 => (if t445 = true then (laws_FnWays.j3 k3 l0 false) else (laws_FnWays.j3 k3 l0 (decide (t436 > (-9))))))) else (laws_FnWays.j3 k3 l0 true))) = some r := H
       have A135 := am_ A1350
       clear A1350
       have HC136 := am_ H
       clear H
       obtain ⟨Ao137, co137, eo137⟩ := Kd.R_slice HO_9.out
       subst eo137
       go_upto_region 22 with (first | ((with_reducible refine gate_callee (f := 35) rfl ?_); refine goesL_ (some 164) rfl rfl Try.func35 (by kernel_rfl) rfl #[.slice A0 l0.length c0] rfl (by (try simp only [mt_, mc_, mn_]); first | done | rfl | (simp only [ld_, lt_]; rfl)) ?_; (with_reducible refine (spec_DrawReach.calls k3 _ _ l0 t430 t431 t432 t435 t436 _ ?side1 ?side2 A134.out).mono ?_); (case side1 => repeat (first | exact (Kd.C_below HR0.out HB.out) | (with_reducible first | refine c1_ ?_ _ | refine c2_ ?_ _ | refine c3_ ?_))); (case side2 => exact HC0.out); rintro e w138 ⟨v433, rfl, ho0, hb⟩; refine ⟨_, rfl, ?_⟩; have n0_ := am_ (Kd.R_elder' (by (with_reducible repeat (first | apply r1_ | apply r2_ | apply r3_)); exact HO_9.out) (Kd.Q_base ho0) hb); have n1_ := am_ (Kd.Q_elder' (by (with_reducible repeat (first | apply q1_ | apply q2_ | apply q3_)); exact HO_403002.out) (Kd.Q_base ho0) hb); have n2_ := am_ (Kd.Q_lower (Kd.Q_new' (Kd.Q_new' ho0 (Kd.R_lt (by (with_reducible repeat (first | apply r1_ | apply r2_ | apply r3_)); exact HO_9.out))) (Kd.Q_lt (by (with_reducible repeat (first | apply q1_ | apply q2_ | apply q3_)); exact HO_403002.out))) (below_size (by repeat (first | (with_reducible first | exact HB.out | apply b1_ | apply b2_ | apply b3_ | refine below_set ?_ GE402.out) | exact HB.out)))); have n3_ := am_ (blk_below (g := gb402) (o := .cells #[.int .i64 t395, .int .i64 t396, .slice Ao11 t397.length co11] 37 (0, 0)) (by (with_reducible repeat (first | refine k1_ ?_ _ | refine k2_ ?_ | refine k3_ ?_ _)); exact BK402.out) hb); have n4_ := am_ (below_step (by repeat (first | (with_reducible first | exact HB.out | apply b1_ | apply b2_ | apply b3_ | refine below_set ?_ GE402.out) | exact HB.out)) hb); replace HO_9 := n0_; replace HO_403002 := n1_; have HO434 := n2_; replace BK402 := n3_; replace HB := n4_; clear n0_ n1_ n2_ n3_ n4_; (try clear hb); (try clear hb2); (try clear hk); (try clear hi); (try clear ho0)) | ((with_reducible refine gate_dst (N := 12) rfl ?_); (try (refine gate_guard (by rfl) ?_; dsimp only)); refine box_event ?hg (N := 12) ?hd (cs := #[.int .i64 0, .int .i64 0, .slice none 0 0]) (t := 37) ?hr ?_; (case hd => rfl); (case hg => rfl); (case hr => first | (go_simp; done) | (go_simp; rfl)); intro gb437 hg w139 hbox hb; have n0_ := am_ (Kd.R_below (by (with_reducible repeat (first | apply r1_ | apply r2_ | apply r3_)); exact HO_9.out) hb); have n1_ := am_ (Kd.Q_below (by (with_reducible repeat (first | apply q1_ | apply q2_ | apply q3_)); exact HO_403002.out) hb); have n2_ := am_ (Kd.Q_below (by (with_reducible repeat (first | apply q1_ | apply q2_ | apply q3_)); exact HO434.out) hb); have n3_ := am_ (blk_below (g := gb402) (o := .cells #[.int .i64 t395, .int .i64 t396, .slice Ao11 t397.length co11] 37 (0, 0)) (by (with_reducible repeat (first | refine k1_ ?_ _ | refine k2_ ?_ | refine k3_ ?_ _)); exact BK402.out) hb); have n4_ := am_ (below_step (by repeat (first | (with_reducible first | exact HB.out | apply b1_ | apply b2_ | apply b3_ | refine below_set ?_ GE402.out) | exact HB.out)) hb); have n5_ := am_ (hbox); have n6_ := am_ ((by rw [hg]; exact (below_size (by repeat (first | (with_reducible first | exact HB.out | apply b1_ | apply b2_ | apply b3_ | refine below_set ?_ GE402.out) | exact HB.out))) : w.heap.size ≤ gb437)); have n7_ := am_ ((by rw [hg]; exact (below_size (by repeat (first | (with_reducible first | exact HB.out | apply b1_ | apply b2_ | apply b3_ | refine below_set ?_ GE402.out) | exact HB.out))) : w.heap.size ≤ gb437)); have n8_ := am_ ((by rw [hg]; exact Nat.ne_of_lt (blk_lt (g := gb402) (o := .cells #[.int .i64 t395, .int .i64 t396, .slice Ao11 t397.length co11] 37 (0, 0)) (by (with_reducible repeat (first | refine k1_ ?_ _ | refine k2_ ?_ | refine k3_ ?_ _)); exact BK402.out)) : gb402 ≠ gb437)); have n9_ := am_ ((by rw [hg]; exact Nat.ne_of_gt (blk_lt (g := gb402) (o := .cells #[.int .i64 t395, .int .i64 t396, .slice Ao11 t397.length co11] 37 (0, 0)) (by (with_reducible repeat (first | refine k1_ ?_ _ | refine k2_ ?_ | refine k3_ ?_ _)); exact BK402.out)) : gb437 ≠ gb402)); replace HO_9 := n0_; replace HO_403002 := n1_; replace HO434 := n2_; replace BK402 := n3_; replace HB := n4_; have BK437 := n5_; have GW437 := n6_; have GE437 := n7_; have NB402_437 := n8_; have NB437_402 := n9_; clear n0_ n1_ n2_ n3_ n4_ n5_ n6_ n7_ n8_ n9_; clear hb hbox hg; have hnb140 := NB437_402.out; have hnc140 := NB402_437.out; have hcz141_0 : w139.cell? ⟨gb437, 0, none⟩ = some (.int .i64 0) := (blk_cell BK437.out 0).trans rfl; have hcz141_1 : w139.cell? ⟨gb437, 1, none⟩ = some (.int .i64 0) := (blk_cell BK437.out 1).trans rfl; have hcz141_2 : w139.cell? ⟨gb437, 2, none⟩ = some (.slice none 0 0) := (blk_cell BK437.out 2).trans rfl; have hfz141_0 := blk_frozen BK437.out 0; have hfz141_1 := blk_frozen BK437.out 1; have hfz141_2 := blk_frozen BK437.out 2; obtain ⟨Ao142, co142, eo142, _⟩ := Kd.Q_slice HO434.out; subst eo142) | ((with_reducible refine gate_callee (f := 36) rfl ?_); refine goesL_ (some 171) rfl rfl Try.func36 (by kernel_rfl) rfl #[.agg #[.int .i64 t430, .int .i64 t431, .slice Ao142 t432.length co142], .int .i64 t435, .int .i64 t436] rfl (by (try simp only [mt_, mc_, mn_]); first | done | rfl | (simp only [ld_, lt_]; rfl)) ?_; (with_reducible refine (impl_Reach.calls k3 t430 t431 _ _ t432 t435 t436 t438 _ ?side1 ?side2 A135.out).mono ?_); (case side1 => refine (Kd.Q_reads' (e := 3) (base := w.heap.size) (ok := fun k_ => ((True ∧ some k_ ≠ (.slice Ao137 t423.length co137 : Value).ownBlock) ∧ some k_ ≠ (.slice Ao11 t397.length co11 : Value).ownBlock)) (n := t432.length) (c := co142) ?_).2.2; exact (by (with_reducible repeat (first | apply q1_ | apply q2_ | apply q3_)); exact (Kd.Q_mono (Kd.Q_far (p := ⟨gb437, 2, none⟩) (Kd.Q_far (p := ⟨gb437, 1, none⟩) (Kd.Q_far (p := ⟨gb437, 0, none⟩) (Kd.Q_types HO434.out BK437.out (by decide)) (fun _ hk => hk.2) (.int .i64 t430)) (fun _ hk => hk.2) (.int .i64 t431)) (fun _ hk => hk.2) (.slice Ao142 t432.length co142)) (fun _ h_ => h_.1)))); (case side2 => exact (Kd.Q_reads' HO434.out).2.1); rintro e w143 ⟨v439, rfl, ho0, hb⟩; refine ⟨_, rfl, ?_⟩; have n0_ := am_ (Kd.R_elder' (by (with_reducible repeat (first | apply r1_ | apply r2_ | apply r3_)); exact (Kd.R_mono (Kd.R_far (p := ⟨gb437, 2, none⟩) (Kd.R_far (p := ⟨gb437, 1, none⟩) (Kd.R_far (p := ⟨gb437, 0, none⟩) (Kd.R_types HO_9.out BK437.out (by decide)) (fun _ hk => hk.2) (.int .i64 t430)) (fun _ hk => hk.2) (.int .i64 t431)) (fun _ hk => hk.2) (.slice Ao142 t432.length co142)) (fun _ h_ => h_.1))) (Kd.R_base ho0) hb); have n1_ := am_ (Kd.Q_elder' (by (with_reducible repeat (first | apply q1_ | apply q2_ | apply q3_)); exact (Kd.Q_mono (Kd.Q_far (p := ⟨gb437, 2, none⟩) (Kd.Q_far (p := ⟨gb437, 1, none⟩) (Kd.Q_far (p := ⟨gb437, 0, none⟩) (Kd.Q_types HO_403002.out BK437.out (by decide)) (fun _ hk => hk.2) (.int .i64 t430)) (fun _ hk => hk.2) (.int .i64 t431)) (fun _ hk => hk.2) (.slice Ao142 t432.length co142)) (fun _ h_ => h_.1))) (Kd.R_base ho0) hb); have n2_ := am_ (Kd.Q_elder' (by (with_reducible repeat (first | apply q1_ | apply q2_ | apply q3_)); exact (Kd.Q_mono (Kd.Q_far (p := ⟨gb437, 2, none⟩) (Kd.Q_far (p := ⟨gb437, 1, none⟩) (Kd.Q_far (p := ⟨gb437, 0, none⟩) (Kd.Q_types HO434.out BK437.out (by decide)) (fun _ hk => hk.2) (.int .i64 t430)) (fun _ hk => hk.2) (.int .i64 t431)) (fun _ hk => hk.2) (.slice Ao142 t432.length co142)) (fun _ h_ => h_.1))) (Kd.R_base ho0) hb); have n3_ := am_ (Kd.R_lower (Kd.R_new' (Kd.R_new' (Kd.R_new' ho0 (Kd.R_lt (by (with_reducible repeat (first | apply r1_ | apply r2_ | apply r3_)); exact (Kd.R_mono (Kd.R_far (p := ⟨gb437, 2, none⟩) (Kd.R_far (p := ⟨gb437, 1, none⟩) (Kd.R_far (p := ⟨gb437, 0, none⟩) (Kd.R_types HO_9.out BK437.out (by decide)) (fun _ hk => hk.2) (.int .i64 t430)) (fun _ hk => hk.2) (.int .i64 t431)) (fun _ hk => hk.2) (.slice Ao142 t432.length co142)) (fun _ h_ => h_.1))))) (Kd.Q_lt (by (with_reducible repeat (first | apply q1_ | apply q2_ | apply q3_)); exact (Kd.Q_mono (Kd.Q_far (p := ⟨gb437, 2, none⟩) (Kd.Q_far (p := ⟨gb437, 1, none⟩) (Kd.Q_far (p := ⟨gb437, 0, none⟩) (Kd.Q_types HO_403002.out BK437.out (by decide)) (fun _ hk => hk.2) (.int .i64 t430)) (fun _ hk => hk.2) (.int .i64 t431)) (fun _ hk => hk.2) (.slice Ao142 t432.length co142)) (fun _ h_ => h_.1))))) (Kd.Q_lt (by (with_reducible repeat (first | apply q1_ | apply q2_ | apply q3_)); exact (Kd.Q_mono (Kd.Q_far (p := ⟨gb437, 2, none⟩) (Kd.Q_far (p := ⟨gb437, 1, none⟩) (Kd.Q_far (p := ⟨gb437, 0, none⟩) (Kd.Q_types HO434.out BK437.out (by decide)) (fun _ hk => hk.2) (.int .i64 t430)) (fun _ hk => hk.2) (.int .i64 t431)) (fun _ hk => hk.2) (.slice Ao142 t432.length co142)) (fun _ h_ => h_.1))))) (below_size (by repeat (first | (with_reducible first | exact HB.out | apply b1_ | apply b2_ | apply b3_ | refine below_set ?_ GE402.out | refine below_set ?_ GE437.out) | exact HB.out)))); have n4_ := am_ (blk_below (g := gb402) (o := .cells #[.int .i64 t395, .int .i64 t396, .slice Ao11 t397.length co11] 37 (0, 0)) (by (with_reducible repeat (first | refine k1_ ?_ _ | refine k2_ ?_ | refine k3_ ?_ _)); refine blk_far ?_ NB402_437.out _; (with_reducible repeat (first | refine k1_ ?_ _ | refine k2_ ?_ | refine k3_ ?_ _)); refine blk_far ?_ NB402_437.out _; (with_reducible repeat (first | refine k1_ ?_ _ | refine k2_ ?_ | refine k3_ ?_ _)); refine blk_far ?_ NB402_437.out _; (with_reducible repeat (first | refine k1_ ?_ _ | refine k2_ ?_ | refine k3_ ?_ _)); exact BK402.out) hb); have n5_ := am_ (blk_below (g := gb437) (o := .cells #[.int .i64 t430, .int .i64 t431, .slice Ao142 t432.length co142] 37 (0, 0)) (by (with_reducible repeat (first | refine k1_ ?_ _ | refine k2_ ?_ | refine k3_ ?_ _)); refine blk_put (cs := #[.int .i64 t430, .int .i64 t431, .slice none 0 0]) ?_ 2 _ rfl; (with_reducible repeat (first | refine k1_ ?_ _ | refine k2_ ?_ | refine k3_ ?_ _)); refine blk_put (cs := #[.int .i64 t430, .int .i64 0, .slice none 0 0]) ?_ 1 _ rfl; (with_reducible repeat (first | refine k1_ ?_ _ | refine k2_ ?_ | refine k3_ ?_ _)); refine blk_put (cs := #[.int .i64 0, .int .i64 0, .slice none 0 0]) ?_ 0 _ rfl; (with_reducible repeat (first | refine k1_ ?_ _ | refine k2_ ?_ | refine k3_ ?_ _)); exact BK437.out) hb); have n6_ := am_ (below_step (by repeat (first | (with_reducible first | exact HB.out | apply b1_ | apply b2_ | apply b3_ | refine below_set ?_ GE402.out | refine below_set ?_ GE437.out) | exact HB.out)) hb); replace HO_9 := n0_; replace HO_403002 := n1_; replace HO434 := n2_; have HO440 := n3_; replace BK402 := n4_; replace BK437 := n5_; replace HB := n6_; clear n0_ n1_ n2_ n3_ n4_ n5_ n6_; (try clear hb); (try clear hb2); (try clear hk); (try clear hi); (try clear ho0)))
       (try simp only [Act.put, List.setIfInBounds_toArray, List.set_cons_zero, List.set_cons_succ])
       go_cut [188] (fun v188 wc => ∃ (kq : Nat) (x188_135 : Bool), v188 = .bool x188_135 ∧ Aside0 (laws_FnWays.j3 kq l0 x188_135 = some r) ∧ Aside0 (kq ≤ k3) ∧ Aside0 (Kd.Q (Kd.int .i64) 3 wc w.heap.size (fun k_ => some k_ ≠ ((.slice Ao142 t432.length co142) : Value).ownBlock) (.slice Ao11 t397.length co11) t397) ∧ Aside0 (Kd.Q (Kd.int .i64) 3 wc w.heap.size (fun k_ => some k_ ≠ ((.slice Ao11 t397.length co11) : Value).ownBlock) (.slice Ao142 t432.length co142) t432) ∧ Aside0 (wc.heap[gb402]? = some (.cells #[.int .i64 t395, .int .i64 t396, (.slice Ao11 t397.length co11)] 37 (0, 0))) ∧ Aside0 (wc.heap[gb437]? = some (.cells #[.int .i64 t430, .int .i64 t431, (.slice Ao142 t432.length co142)] 37 (0, 0))) ∧ Aside0 (Below w.heap.size w wc))
       case first => as_aux_lemma =>
        have H := HC136.out
        clear HC136
        replace H := Option.bind_eq_some_iff.mp H
        obtain ⟨t441, A1440, H⟩ := H
        replace H : (if t441 = true then ((impl_Reach.f k3 t430 t431 t432 t435 (wrap64 (t436 - 1))).bind fun t442 => ((laws_within.f k3 t442 t438).bind fun t445 => (if t445 = true then (laws_FnWays.j3 k3 l0 false) else (laws_FnWays.j3 k3 l0 (decide (t436 > (-9))))))) else (laws_FnWays.j3 k3 l0 true)) = some r := H
        have A144 := am_ A1440
        clear A1440
        by_cases c145 : t441 = true
        rotate_left
        ·replace c145 := Bool.eq_false_iff.mpr c145
         subst c145
         have H1 : (laws_FnWays.j3 k3 l0 true) = some r := by rw [if_neg (show ¬ (false = true) by decide)] at H; exact H
         clear H
         have H := H1
         clear H1
         have H' := am_ H
         clear H
         obtain ⟨Ao159, co159, eo159⟩ := Kd.R_slice HO440.out
         subst eo159
         go_wp2_with (first | ((with_reducible refine gate_callee (f := 37) rfl ?_); refine goesL_ (some 173) rfl rfl Try.func37 (by kernel_rfl) rfl #[.slice Ao159 t438.length co159] rfl (by (try simp only [mt_, mc_, mn_]); first | done | rfl | (simp only [ld_, lt_]; rfl)) ?_; (with_reducible refine (laws_ascends.calls k3 _ _ t438 false _ ?side1 ?side2 A144.out).mono ?_); (case side1 => repeat (first | exact (Kd.R_reads' HO440.out).2.2 | (with_reducible first | refine c1_ ?_ _ | refine c2_ ?_ _ | refine c3_ ?_))); (case side2 => exact (Kd.R_reads' HO440.out).2.1); rintro e w' ⟨rfl, ⟨nd, rfl⟩⟩; refine ⟨_, rfl, ?_⟩))
         go_meet
         case rel => exact ⟨_, (true), (by first | rfl | (simp; done) | (simp [*]; done)), H', ⟨by have := HJ6.out; have := HK2.out; have := HK3.out; first | omega | exact Nat.le_refl _⟩, ⟨by (with_reducible repeat (first | apply q1_ | apply q2_ | apply q3_)); exact Kd.Q_mono HO_403002.out (fun _ hk => hk.1.2)⟩, ⟨by (with_reducible repeat (first | apply q1_ | apply q2_ | apply q3_)); exact Kd.Q_mono HO434.out (fun _ hk => hk.1.2)⟩, ⟨by (with_reducible repeat (first | refine k1_ ?_ _ | refine k2_ ?_ | refine k3_ ?_ _)); exact BK402.out⟩, ⟨by (with_reducible repeat (first | refine k1_ ?_ _ | refine k2_ ?_ | refine k3_ ?_ _)); exact BK437.out⟩, ⟨by repeat (first | (with_reducible first | exact HB.out | apply b1_ | apply b2_ | apply b3_ | refine below_set ?_ GE402.out | refine below_set ?_ GE437.out) | exact HB.out)⟩⟩
        subst c145
        have H1 : ((impl_Reach.f k3 t430 t431 t432 t435 (wrap64 (t436 - 1))).bind fun t442 => ((laws_within.f k3 t442 t438).bind fun t445 => (if t445 = true then (laws_FnWays.j3 k3 l0 false) else (laws_FnWays.j3 k3 l0 (decide (t436 > (-9))))))) = some r := by rw [if_pos rfl] at H; exact H
        clear H
        have H := H1
        clear H1
        replace H := Option.bind_eq_some_iff.mp H
        obtain ⟨t442, A1460, H⟩ := H
        replace H : ((laws_within.f k3 t442 t438).bind fun t445 => (if t445 = true then (laws_FnWays.j3 k3 l0 false) else (laws_FnWays.j3 k3 l0 (decide (t436 > (-9)))))) = some r := H
        have A146 := am_ A1460
        clear A1460
        replace H := Option.bind_eq_some_iff.mp H
        obtain ⟨t445, A1470, H⟩ := H
        replace H : (if t445 = true then (laws_FnWays.j3 k3 l0 false) else (laws_FnWays.j3 k3 l0 (decide (t436 > (-9))))) = some r := H
        have A147 := am_ A1470
        clear A1470
        by_cases c148 : t445 = true
        ·subst c148
         have H1 : (laws_FnWays.j3 k3 l0 false) = some r := by rw [if_pos rfl] at H; exact H
         clear H
         have H := H1
         clear H1
         have H' := am_ H
         clear H
         obtain ⟨Ao149, co149, eo149⟩ := Kd.R_slice HO440.out
         subst eo149
         go_wp2_with (first | ((with_reducible refine gate_callee (f := 37) rfl ?_); refine goesL_ (some 173) rfl rfl Try.func37 (by kernel_rfl) rfl #[.slice Ao149 t438.length co149] rfl (by (try simp only [mt_, mc_, mn_]); first | done | rfl | (simp only [ld_, lt_]; rfl)) ?_; (with_reducible refine (laws_ascends.calls k3 _ _ t438 true _ ?side1 ?side2 A144.out).mono ?_); (case side1 => repeat (first | exact (Kd.R_reads' HO440.out).2.2 | (with_reducible first | refine c1_ ?_ _ | refine c2_ ?_ _ | refine c3_ ?_))); (case side2 => exact (Kd.R_reads' HO440.out).2.1); rintro e w' ⟨rfl, ⟨nd, rfl⟩⟩; refine ⟨_, rfl, ?_⟩; have hnb150 := NB437_402.out; have hnc150 := NB402_437.out; have hcz151_0 : w143.cell? ⟨gb437, 0, none⟩ = some (.int .i64 t430) := (blk_cell BK437.out 0).trans rfl; have hcz151_1 : w143.cell? ⟨gb437, 1, none⟩ = some (.int .i64 t431) := (blk_cell BK437.out 1).trans rfl; have hcz151_2 : w143.cell? ⟨gb437, 2, none⟩ = some (.slice Ao142 t432.length co142) := (blk_cell BK437.out 2).trans rfl; have hfz151_0 := blk_frozen BK437.out 0; have hfz151_1 := blk_frozen BK437.out 1; have hfz151_2 := blk_frozen BK437.out 2) | (go_at_call 36; (with_reducible refine (impl_Reach.calls k3 t430 t431 _ _ t432 t435 (wrap64 (t436 - 1)) t442 _ ?side1 ?side2 A146.out).mono ?_); (case side1 => repeat (first | exact (Kd.Q_reads' HO434.out).2.2 | (with_reducible first | refine c1_ ?_ _ | refine c2_ ?_ _ | refine c3_ ?_))); (case side2 => exact (Kd.Q_reads' HO434.out).2.1); rintro e w152 ⟨v443, rfl, ho0, hb⟩; have n0_ := am_ (Kd.R_elder' (by (with_reducible repeat (first | apply r1_ | apply r2_ | apply r3_)); exact HO_9.out) (Kd.R_base ho0) hb); have n1_ := am_ (Kd.Q_elder' (by (with_reducible repeat (first | apply q1_ | apply q2_ | apply q3_)); exact HO_403002.out) (Kd.R_base ho0) hb); have n2_ := am_ (Kd.Q_elder' (by (with_reducible repeat (first | apply q1_ | apply q2_ | apply q3_)); exact HO434.out) (Kd.R_base ho0) hb); have n3_ := am_ (Kd.R_elder' (by (with_reducible repeat (first | apply r1_ | apply r2_ | apply r3_)); exact HO440.out) (Kd.R_base ho0) hb); have n4_ := am_ (Kd.R_lower (Kd.R_new' (Kd.R_new' (Kd.R_new' (Kd.R_new' ho0 (Kd.R_lt (by (with_reducible repeat (first | apply r1_ | apply r2_ | apply r3_)); exact HO_9.out))) (Kd.Q_lt (by (with_reducible repeat (first | apply q1_ | apply q2_ | apply q3_)); exact HO_403002.out))) (Kd.Q_lt (by (with_reducible repeat (first | apply q1_ | apply q2_ | apply q3_)); exact HO434.out))) (Kd.R_lt (by (with_reducible repeat (first | apply r1_ | apply r2_ | apply r3_)); exact HO440.out))) (below_size (by repeat (first | (with_reducible first | exact HB.out | apply b1_ | apply b2_ | apply b3_ | refine below_set ?_ GE402.out | refine below_set ?_ GE437.out) | exact HB.out)))); have n5_ := am_ (blk_below (g := gb402) (o := .cells #[.int .i64 t395, .int .i64 t396, .slice Ao11 t397.length co11] 37 (0, 0)) (by (with_reducible repeat (first | refine k1_ ?_ _ | refine k2_ ?_ | refine k3_ ?_ _)); exact BK402.out) hb); have n6_ := am_ (blk_below (g := gb437) (o := .cells #[.int .i64 t430, .int .i64 t431, .slice Ao142 t432.length co142] 37 (0, 0)) (by (with_reducible repeat (first | refine k1_ ?_ _ | refine k2_ ?_ | refine k3_ ?_ _)); exact BK437.out) hb); have n7_ := am_ (below_step (by repeat (first | (with_reducible first | exact HB.out | apply b1_ | apply b2_ | apply b3_ | refine below_set ?_ GE402.out | refine below_set ?_ GE437.out) | exact HB.out)) hb); replace HO_9 := n0_; replace HO_403002 := n1_; replace HO434 := n2_; replace HO440 := n3_; have HO444 := n4_; replace BK402 := n5_; replace BK437 := n6_; replace HB := n7_; clear n0_ n1_ n2_ n3_ n4_ n5_ n6_ n7_; (try clear hb); (try clear hb2); (try clear hk); (try clear hi); (try clear ho0); obtain ⟨Ao153, co153, eo153⟩ := Kd.R_slice HO444.out; subst eo153) | (go_at_call 38; (with_reducible refine (laws_within.calls k3 _ _ t442 _ _ t438 true _ ?side1 ?side2 ?side3 ?side4 A147.out).mono ?_); (case side1 => repeat (first | exact (Kd.R_reads' HO444.out).2.2 | (with_reducible first | refine c1_ ?_ _ | refine c2_ ?_ _ | refine c3_ ?_))); (case side2 => exact (Kd.R_reads' HO444.out).2.1); (case side3 => repeat (first | exact (Kd.R_reads' HO440.out).2.2 | (with_reducible first | refine c1_ ?_ _ | refine c2_ ?_ _ | refine c3_ ?_))); (case side4 => exact (Kd.R_reads' HO440.out).2.1); rintro e w' ⟨rfl, ⟨nd, rfl⟩⟩))
         go_meet
         case rel => exact ⟨_, (false), (by first | rfl | (simp; done) | (simp [*]; done)), H', ⟨by have := HJ6.out; have := HK2.out; have := HK3.out; first | omega | exact Nat.le_refl _⟩, ⟨by (with_reducible repeat (first | apply q1_ | apply q2_ | apply q3_)); exact Kd.Q_mono HO_403002.out (fun _ hk => hk.1.1.2)⟩, ⟨by (with_reducible repeat (first | apply q1_ | apply q2_ | apply q3_)); exact Kd.Q_mono HO434.out (fun _ hk => hk.1.1.2)⟩, ⟨by (with_reducible repeat (first | refine k1_ ?_ _ | refine k2_ ?_ | refine k3_ ?_ _)); exact BK402.out⟩, ⟨by (with_reducible repeat (first | refine k1_ ?_ _ | refine k2_ ?_ | refine k3_ ?_ _)); exact BK437.out⟩, ⟨by repeat (first | (with_reducible first | exact HB.out | apply b1_ | apply b2_ | apply b3_ | refine below_set ?_ GE402.out | refine below_set ?_ GE437.out) | exact HB.out)⟩⟩
        replace c148 := Bool.eq_false_iff.mpr c148
        subst c148
        have H1 : (laws_FnWays.j3 k3 l0 (decide (t436 > (-9)))) = some r := by rw [if_neg (show ¬ (false = true) by decide)] at H; exact H
        clear H
        have H := H1
        clear H1
        have H' := am_ H
        clear H
        obtain ⟨Ao154, co154, eo154⟩ := Kd.R_slice HO440.out
        subst eo154
        go_wp2_with (first | ((with_reducible refine gate_callee (f := 37) rfl ?_); refine goesL_ (some 173) rfl rfl Try.func37 (by kernel_rfl) rfl #[.slice Ao154 t438.length co154] rfl (by (try simp only [mt_, mc_, mn_]); first | done | rfl | (simp only [ld_, lt_]; rfl)) ?_; (with_reducible refine (laws_ascends.calls k3 _ _ t438 true _ ?side1 ?side2 A144.out).mono ?_); (case side1 => repeat (first | exact (Kd.R_reads' HO440.out).2.2 | (with_reducible first | refine c1_ ?_ _ | refine c2_ ?_ _ | refine c3_ ?_))); (case side2 => exact (Kd.R_reads' HO440.out).2.1); rintro e w' ⟨rfl, ⟨nd, rfl⟩⟩; refine ⟨_, rfl, ?_⟩; have hnb155 := NB437_402.out; have hnc155 := NB402_437.out; have hcz156_0 : w143.cell? ⟨gb437, 0, none⟩ = some (.int .i64 t430) := (blk_cell BK437.out 0).trans rfl; have hcz156_1 : w143.cell? ⟨gb437, 1, none⟩ = some (.int .i64 t431) := (blk_cell BK437.out 1).trans rfl; have hcz156_2 : w143.cell? ⟨gb437, 2, none⟩ = some (.slice Ao142 t432.length co142) := (blk_cell BK437.out 2).trans rfl; have hfz156_0 := blk_frozen BK437.out 0; have hfz156_1 := blk_frozen BK437.out 1; have hfz156_2 := blk_frozen BK437.out 2) | (go_at_call 36; (with_reducible refine (impl_Reach.calls k3 t430 t431 _ _ t432 t435 (wrap64 (t436 - 1)) t442 _ ?side1 ?side2 A146.out).mono ?_); (case side1 => repeat (first | exact (Kd.Q_reads' HO434.out).2.2 | (with_reducible first | refine c1_ ?_ _ | refine c2_ ?_ _ | refine c3_ ?_))); (case side2 => exact (Kd.Q_reads' HO434.out).2.1); rintro e w157 ⟨v443, rfl, ho0, hb⟩; have n0_ := am_ (Kd.R_elder' (by (with_reducible repeat (first | apply r1_ | apply r2_ | apply r3_)); exact HO_9.out) (Kd.R_base ho0) hb); have n1_ := am_ (Kd.Q_elder' (by (with_reducible repeat (first | apply q1_ | apply q2_ | apply q3_)); exact HO_403002.out) (Kd.R_base ho0) hb); have n2_ := am_ (Kd.Q_elder' (by (with_reducible repeat (first | apply q1_ | apply q2_ | apply q3_)); exact HO434.out) (Kd.R_base ho0) hb); have n3_ := am_ (Kd.R_elder' (by (with_reducible repeat (first | apply r1_ | apply r2_ | apply r3_)); exact HO440.out) (Kd.R_base ho0) hb); have n4_ := am_ (Kd.R_lower (Kd.R_new' (Kd.R_new' (Kd.R_new' (Kd.R_new' ho0 (Kd.R_lt (by (with_reducible repeat (first | apply r1_ | apply r2_ | apply r3_)); exact HO_9.out))) (Kd.Q_lt (by (with_reducible repeat (first | apply q1_ | apply q2_ | apply q3_)); exact HO_403002.out))) (Kd.Q_lt (by (with_reducible repeat (first | apply q1_ | apply q2_ | apply q3_)); exact HO434.out))) (Kd.R_lt (by (with_reducible repeat (first | apply r1_ | apply r2_ | apply r3_)); exact HO440.out))) (below_size (by repeat (first | (with_reducible first | exact HB.out | apply b1_ | apply b2_ | apply b3_ | refine below_set ?_ GE402.out | refine below_set ?_ GE437.out) | exact HB.out)))); have n5_ := am_ (blk_below (g := gb402) (o := .cells #[.int .i64 t395, .int .i64 t396, .slice Ao11 t397.length co11] 37 (0, 0)) (by (with_reducible repeat (first | refine k1_ ?_ _ | refine k2_ ?_ | refine k3_ ?_ _)); exact BK402.out) hb); have n6_ := am_ (blk_below (g := gb437) (o := .cells #[.int .i64 t430, .int .i64 t431, .slice Ao142 t432.length co142] 37 (0, 0)) (by (with_reducible repeat (first | refine k1_ ?_ _ | refine k2_ ?_ | refine k3_ ?_ _)); exact BK437.out) hb); have n7_ := am_ (below_step (by repeat (first | (with_reducible first | exact HB.out | apply b1_ | apply b2_ | apply b3_ | refine below_set ?_ GE402.out | refine below_set ?_ GE437.out) | exact HB.out)) hb); replace HO_9 := n0_; replace HO_403002 := n1_; replace HO434 := n2_; replace HO440 := n3_; have HO444 := n4_; replace BK402 := n5_; replace BK437 := n6_; replace HB := n7_; clear n0_ n1_ n2_ n3_ n4_ n5_ n6_ n7_; (try clear hb); (try clear hb2); (try clear hk); (try clear hi); (try clear ho0); obtain ⟨Ao158, co158, eo158⟩ := Kd.R_slice HO444.out; subst eo158) | (go_at_call 38; (with_reducible refine (laws_within.calls k3 _ _ t442 _ _ t438 false _ ?side1 ?side2 ?side3 ?side4 A147.out).mono ?_); (case side1 => repeat (first | exact (Kd.R_reads' HO444.out).2.2 | (with_reducible first | refine c1_ ?_ _ | refine c2_ ?_ _ | refine c3_ ?_))); (case side2 => exact (Kd.R_reads' HO444.out).2.1); (case side3 => repeat (first | exact (Kd.R_reads' HO440.out).2.2 | (with_reducible first | refine c1_ ?_ _ | refine c2_ ?_ _ | refine c3_ ?_))); (case side4 => exact (Kd.R_reads' HO440.out).2.1); rintro e w' ⟨rfl, ⟨nd, rfl⟩⟩))
        go_meet
        case rel => exact ⟨_, (decide (t436 > (-9))), (by first | rfl | (simp; done) | (simp [*]; done)), H', ⟨by have := HJ6.out; have := HK2.out; have := HK3.out; first | omega | exact Nat.le_refl _⟩, ⟨by (with_reducible repeat (first | apply q1_ | apply q2_ | apply q3_)); exact Kd.Q_mono HO_403002.out (fun _ hk => hk.1.1.2)⟩, ⟨by (with_reducible repeat (first | apply q1_ | apply q2_ | apply q3_)); exact Kd.Q_mono HO434.out (fun _ hk => hk.1.1.2)⟩, ⟨by (with_reducible repeat (first | refine k1_ ?_ _ | refine k2_ ?_ | refine k3_ ?_ _)); exact BK402.out⟩, ⟨by (with_reducible repeat (first | refine k1_ ?_ _ | refine k2_ ?_ | refine k3_ ?_ _)); exact BK437.out⟩, ⟨by repeat (first | (with_reducible first | exact HB.out | apply b1_ | apply b2_ | apply b3_ | refine below_set ?_ GE402.out | refine below_set ?_ GE437.out) | exact HB.out)⟩⟩
       case rest => as_aux_lemma =>
        clear HC136
        try clear c1
        try clear c2
        try clear p2
        try clear c3
        try clear p4
        try clear q4
        try clear hx4
        try clear p6
        try clear c9
        try clear c11
        try clear c14
        try clear c15
        try clear c28
        try clear c35
        try clear c36
        try clear c37
        try clear p42
        try clear q42
        try clear hx42
        try clear p64
        try clear c90
        try clear c90b0
        try clear c91
        try clear c93
        try clear c93b0
        try clear c115
        try clear c115b0
        try clear c117
        try clear c140
        try clear c145
        try clear c148
        try clear c150
        try clear c155
        try clear hcz121_0
        try clear hcz121_1
        try clear hcz121_2
        try clear hcz126_0
        try clear hcz126_1
        try clear hcz126_2
        try clear hcz141_0
        try clear hcz141_1
        try clear hcz141_2
        try clear hcz151_0
        try clear hcz151_1
        try clear hcz151_2
        try clear hcz156_0
        try clear hcz156_1
        try clear hcz156_2
        try clear hfz121_0
        try clear hfz121_1
        try clear hfz121_2
        try clear hfz126_0
        try clear hfz126_1
        try clear hfz126_2
        try clear hfz141_0
        try clear hfz141_1
        try clear hfz141_2
        try clear hfz151_0
        try clear hfz151_1
        try clear hfz151_2
        try clear hfz156_0
        try clear hfz156_1
        try clear hfz156_2
        try clear hx426_0
        try clear p426
        try clear q426
        obtain ⟨kq, x188_135, rfl, HA, HJ135, HO_403002, HO_438002, BK402, BK437, HB⟩ := hcut
        cases kq with
        | zero => exact absurd HA.out (by simp [laws_FnWays.j3])
        | succ kj135 =>
         have H := HA.out
         clear HA
         simp only [laws_FnWays.j3] at H
         by_cases c160 : x188_135 = true
         ·subst c160
          have H1 : (some false) = some r := by rw [if_pos rfl] at H; exact H
          clear H
          have H := H1
          clear H1
          obtain rfl := Option.some.inj H
          go_wp2
          go_ret
          exact ⟨by first | rfl | (simp [errW_none, errW_some] <;> rfl) | (simp [*, errW_none, errW_some] <;> rfl), by repeat (first | (with_reducible first | exact HB.out | apply b1_ | apply b2_ | apply b3_ | refine below_set ?_ GE402.out | refine below_set ?_ GE437.out) | exact HB.out)⟩
         replace c160 := Bool.eq_false_iff.mpr c160
         subst c160
         have H1 : ((spec_DrawFarthest.f kj135 l0).bind fun bt446 => ((impl_Farthest.f kj135 bt446.1 bt446.2.1 bt446.2.2.1 bt446.2.2.2).bind fun t453 => ((impl_IsOpen.f kj135 bt446.1 bt446.2.1 bt446.2.2.1 bt446.2.2.2).bind fun t454 => (if ((decide (t453 ≥ 0)) == t454) = true then (if t453 < 0 then (some true) else ((impl_Days.f kj135 bt446.1 bt446.2.1 bt446.2.2.1 bt446.2.2.2 t453).bind fun t455 => ((impl_Reach.f kj135 bt446.1 bt446.2.1 bt446.2.2.1 bt446.2.2.2 t455).bind fun t456 => ((impl_Reach.f kj135 bt446.1 bt446.2.1 bt446.2.2.1 bt446.2.2.2 99).bind fun t459 => (some ((t456.length : Int) == (t459.length : Int))))))) else (some false))))) = some r := by rw [if_neg (show ¬ (false = true) by decide)] at H; exact H
         clear H
         have H := H1
         clear H1
         replace H := Option.bind_eq_some_iff.mp H
         obtain ⟨⟨t446, t447, t448, t451⟩, A1610, H⟩ := H
         replace H : ((impl_Farthest.f kj135 t446 t447 t448 t451).bind fun t453 => ((impl_IsOpen.f kj135 t446 t447 t448 t451).bind fun t454 => (if ((decide (t453 ≥ 0)) == t454) = true then (if t453 < 0 then (some true) else ((impl_Days.f kj135 t446 t447 t448 t451 t453).bind fun t455 => ((impl_Reach.f kj135 t446 t447 t448 t451 t455).bind fun t456 => ((impl_Reach.f kj135 t446 t447 t448 t451 99).bind fun t459 => (some ((t456.length : Int) == (t459.length : Int))))))) else (some false)))) = some r := H
         have A161 := am_ A1610
         clear A1610
         replace H := Option.bind_eq_some_iff.mp H
         obtain ⟨t453, A1620, H⟩ := H
         replace H : ((impl_IsOpen.f kj135 t446 t447 t448 t451).bind fun t454 => (if ((decide (t453 ≥ 0)) == t454) = true then (if t453 < 0 then (some true) else ((impl_Days.f kj135 t446 t447 t448 t451 t453).bind fun t455 => ((impl_Reach.f kj135 t446 t447 t448 t451 t455).bind fun t456 => ((impl_Reach.f kj135 t446 t447 t448 t451 99).bind fun t459 => (some ((t456.length : Int) == (t459.length : Int))))))) else (some false))) = some r := H
         have A162 := am_ A1620
         clear A1620
         replace H := Option.bind_eq_some_iff.mp H
         obtain ⟨t454, A1630, H⟩ := H
         replace H : (if ((decide (t453 ≥ 0)) == t454) = true then (if t453 < 0 then (some true) else ((impl_Days.f kj135 t446 t447 t448 t451 t453).bind fun t455 => ((impl_Reach.f kj135 t446 t447 t448 t451 t455).bind fun t456 => ((impl_Reach.f kj135 t446 t447 t448 t451 99).bind fun t459 => (some ((t456.length : Int) == (t459.length : Int))))))) else (some false)) = some r := H
         have A163 := am_ A1630
         clear A1630
         by_cases c164 : ((decide (t453 ≥ 0)) == t454) = true
         rotate_left
         ·rw [if_neg c164] at H
          have c164b0 : ((decide (t453 ≥ 0)) == t454) = false := by simpa using c164
          (try (have c164b1 : decide ((decide (t453 ≥ 0)) = t454) = false := by simpa using c164))
          (try (have c164b2 : ((decide (t453 ≥ 0)) == t454) = false := by simpa using c164))
          (try (have c164b3 : ¬ ((decide (t453 ≥ 0)) = t454) := by simpa using c164))
          clear c164
          obtain rfl := Option.some.inj H
          try go_wp2_with (first | ((with_reducible refine gate_callee (f := 39) rfl ?_); refine goesL_ (some 191) rfl rfl Try.func39 (by kernel_rfl) rfl #[.slice A0 l0.length c0] rfl (by (try simp only [mt_, mc_, mn_]); first | done | rfl | (simp only [ld_, lt_]; rfl)) ?_; (with_reducible refine (spec_DrawFarthest.calls kj135 _ _ l0 t446 t447 t448 t451 _ ?side1 ?side2 A161.out).mono ?_); (case side1 => repeat (first | exact (Kd.C_below HR0.out HB.out) | (with_reducible first | refine c1_ ?_ _ | refine c2_ ?_ _ | refine c3_ ?_))); (case side2 => exact HC0.out); rintro e w192 ⟨v449, rfl, ho0, hb⟩; refine ⟨_, rfl, ?_⟩; have n0_ := am_ (Kd.Q_elder' (by (with_reducible repeat (first | apply q1_ | apply q2_ | apply q3_)); exact HO_403002.out) (Kd.Q_base ho0) hb); have n1_ := am_ (Kd.Q_elder' (by (with_reducible repeat (first | apply q1_ | apply q2_ | apply q3_)); exact HO_438002.out) (Kd.Q_base ho0) hb); have n2_ := am_ (Kd.Q_lower (Kd.Q_new' (Kd.Q_new' ho0 (Kd.Q_lt (by (with_reducible repeat (first | apply q1_ | apply q2_ | apply q3_)); exact HO_403002.out))) (Kd.Q_lt (by (with_reducible repeat (first | apply q1_ | apply q2_ | apply q3_)); exact HO_438002.out))) (below_size (by repeat (first | (with_reducible first | exact HB.out | apply b1_ | apply b2_ | apply b3_ | refine below_set ?_ GE402.out | refine below_set ?_ GE437.out) | exact HB.out)))); have n3_ := am_ (blk_below (g := gb402) (o := .cells #[.int .i64 t395, .int .i64 t396, .slice Ao11 t397.length co11] 37 (0, 0)) (by (with_reducible repeat (first | refine k1_ ?_ _ | refine k2_ ?_ | refine k3_ ?_ _)); exact BK402.out) hb); have n4_ := am_ (blk_below (g := gb437) (o := .cells #[.int .i64 t430, .int .i64 t431, .slice Ao142 t432.length co142] 37 (0, 0)) (by (with_reducible repeat (first | refine k1_ ?_ _ | refine k2_ ?_ | refine k3_ ?_ _)); exact BK437.out) hb); have n5_ := am_ (below_step (by repeat (first | (with_reducible first | exact HB.out | apply b1_ | apply b2_ | apply b3_ | refine below_set ?_ GE402.out | refine below_set ?_ GE437.out) | exact HB.out)) hb); replace HO_403002 := n0_; replace HO_438002 := n1_; have HO450 := n2_; replace BK402 := n3_; replace BK437 := n4_; replace HB := n5_; clear n0_ n1_ n2_ n3_ n4_ n5_; (try clear hb); (try clear hb2); (try clear hk); (try clear hi); (try clear ho0)) | ((with_reducible refine gate_dst (N := 16) rfl ?_); (try (refine gate_guard (by rfl) ?_; dsimp only)); refine box_event ?hg (N := 16) ?hd (cs := #[.int .i64 0, .int .i64 0, .slice none 0 0]) (t := 37) ?hr ?_; (case hd => rfl); (case hg => rfl); (case hr => first | (go_simp; done) | (go_simp; rfl)); intro gb452 hg w193 hbox hb; have n0_ := am_ (Kd.Q_below (by (with_reducible repeat (first | apply q1_ | apply q2_ | apply q3_)); exact HO_403002.out) hb); have n1_ := am_ (Kd.Q_below (by (with_reducible repeat (first | apply q1_ | apply q2_ | apply q3_)); exact HO_438002.out) hb); have n2_ := am_ (Kd.Q_below (by (with_reducible repeat (first | apply q1_ | apply q2_ | apply q3_)); exact HO450.out) hb); have n3_ := am_ (blk_below (g := gb402) (o := .cells #[.int .i64 t395, .int .i64 t396, .slice Ao11 t397.length co11] 37 (0, 0)) (by (with_reducible repeat (first | refine k1_ ?_ _ | refine k2_ ?_ | refine k3_ ?_ _)); exact BK402.out) hb); have n4_ := am_ (blk_below (g := gb437) (o := .cells #[.int .i64 t430, .int .i64 t431, .slice Ao142 t432.length co142] 37 (0, 0)) (by (with_reducible repeat (first | refine k1_ ?_ _ | refine k2_ ?_ | refine k3_ ?_ _)); exact BK437.out) hb); have n5_ := am_ (below_step (by repeat (first | (with_reducible first | exact HB.out | apply b1_ | apply b2_ | apply b3_ | refine below_set ?_ GE402.out | refine below_set ?_ GE437.out) | exact HB.out)) hb); have n6_ := am_ (hbox); have n7_ := am_ ((by rw [hg]; exact (below_size (by repeat (first | (with_reducible first | exact HB.out | apply b1_ | apply b2_ | apply b3_ | refine below_set ?_ GE402.out | refine below_set ?_ GE437.out) | exact HB.out))) : w.heap.size ≤ gb452)); have n8_ := am_ ((by rw [hg]; exact (below_size (by repeat (first | (with_reducible first | exact HB.out | apply b1_ | apply b2_ | apply b3_ | refine below_set ?_ GE402.out | refine below_set ?_ GE437.out) | exact HB.out))) : w.heap.size ≤ gb452)); have n9_ := am_ ((by rw [hg]; exact Nat.ne_of_lt (blk_lt (g := gb402) (o := .cells #[.int .i64 t395, .int .i64 t396, .slice Ao11 t397.length co11] 37 (0, 0)) (by (with_reducible repeat (first | refine k1_ ?_ _ | refine k2_ ?_ | refine k3_ ?_ _)); exact BK402.out)) : gb402 ≠ gb452)); have n10_ := am_ ((by rw [hg]; exact Nat.ne_of_gt (blk_lt (g := gb402) (o := .cells #[.int .i64 t395, .int .i64 t396, .slice Ao11 t397.length co11] 37 (0, 0)) (by (with_reducible repeat (first | refine k1_ ?_ _ | refine k2_ ?_ | refine k3_ ?_ _)); exact BK402.out)) : gb452 ≠ gb402)); have n11_ := am_ ((by rw [hg]; exact Nat.ne_of_lt (blk_lt (g := gb437) (o := .cells #[.int .i64 t430, .int .i64 t431, .slice Ao142 t432.length co142] 37 (0, 0)) (by (with_reducible repeat (first | refine k1_ ?_ _ | refine k2_ ?_ | refine k3_ ?_ _)); exact BK437.out)) : gb437 ≠ gb452)); have n12_ := am_ ((by rw [hg]; exact Nat.ne_of_gt (blk_lt (g := gb437) (o := .cells #[.int .i64 t430, .int .i64 t431, .slice Ao142 t432.length co142] 37 (0, 0)) (by (with_reducible repeat (first | refine k1_ ?_ _ | refine k2_ ?_ | refine k3_ ?_ _)); exact BK437.out)) : gb452 ≠ gb437)); replace HO_403002 := n0_; replace HO_438002 := n1_; replace HO450 := n2_; replace BK402 := n3_; replace BK437 := n4_; replace HB := n5_; have BK452 := n6_; have GW452 := n7_; have GE452 := n8_; have NB402_452 := n9_; have NB452_402 := n10_; have NB437_452 := n11_; have NB452_437 := n12_; clear n0_ n1_ n2_ n3_ n4_ n5_ n6_ n7_ n8_ n9_ n10_ n11_ n12_; clear hb hbox hg; have hnb194 := NB452_402.out; have hnc194 := NB402_452.out; have hnb195 := NB452_437.out; have hnc195 := NB437_452.out; have hcz196_0 : w193.cell? ⟨gb452, 0, none⟩ = some (.int .i64 0) := (blk_cell BK452.out 0).trans rfl; have hcz196_1 : w193.cell? ⟨gb452, 1, none⟩ = some (.int .i64 0) := (blk_cell BK452.out 1).trans rfl; have hcz196_2 : w193.cell? ⟨gb452, 2, none⟩ = some (.slice none 0 0) := (blk_cell BK452.out 2).trans rfl; have hfz196_0 := blk_frozen BK452.out 0; have hfz196_1 := blk_frozen BK452.out 1; have hfz196_2 := blk_frozen BK452.out 2; obtain ⟨Ao197, co197, eo197, _⟩ := Kd.Q_slice HO450.out; subst eo197) | ((with_reducible refine gate_callee (f := 40) rfl ?_); refine goesL_ (some 196) rfl rfl Try.func40 (by kernel_rfl) rfl #[.agg #[.int .i64 t446, .int .i64 t447, .slice Ao197 t448.length co197], .int .i64 t451] rfl (by (try simp only [mt_, mc_, mn_]); first | done | rfl | (simp only [ld_, lt_]; rfl)) ?_; (with_reducible refine (impl_Farthest.calls kj135 t446 t447 _ _ t448 t451 t453 _ ?side1 ?side2 A162.out).mono ?_); (case side1 => refine (Kd.Q_reads' (e := 3) (base := w.heap.size) (ok := fun k_ => ((True ∧ some k_ ≠ (.slice Ao11 t397.length co11 : Value).ownBlock) ∧ some k_ ≠ (.slice Ao142 t432.length co142 : Value).ownBlock)) (n := t448.length) (c := co197) ?_).2.2; exact (by (with_reducible repeat (first | apply q1_ | apply q2_ | apply q3_)); exact (Kd.Q_mono (Kd.Q_far (p := ⟨gb452, 2, none⟩) (Kd.Q_far (p := ⟨gb452, 1, none⟩) (Kd.Q_far (p := ⟨gb452, 0, none⟩) (Kd.Q_types HO450.out BK452.out (by decide)) (fun _ hk => hk.2) (.int .i64 t446)) (fun _ hk => hk.2) (.int .i64 t447)) (fun _ hk => hk.2) (.slice Ao197 t448.length co197)) (fun _ h_ => h_.1)))); (case side2 => exact (Kd.Q_reads' HO450.out).2.1); rintro e w198 ⟨rfl, hb⟩; refine ⟨_, rfl, ?_⟩; have n0_ := am_ (Kd.Q_below (by (with_reducible repeat (first | apply q1_ | apply q2_ | apply q3_)); exact (Kd.Q_mono (Kd.Q_far (p := ⟨gb452, 2, none⟩) (Kd.Q_far (p := ⟨gb452, 1, none⟩) (Kd.Q_far (p := ⟨gb452, 0, none⟩) (Kd.Q_types HO_403002.out BK452.out (by decide)) (fun _ hk => hk.2) (.int .i64 t446)) (fun _ hk => hk.2) (.int .i64 t447)) (fun _ hk => hk.2) (.slice Ao197 t448.length co197)) (fun _ h_ => h_.1))) hb); have n1_ := am_ (Kd.Q_below (by (with_reducible repeat (first | apply q1_ | apply q2_ | apply q3_)); exact (Kd.Q_mono (Kd.Q_far (p := ⟨gb452, 2, none⟩) (Kd.Q_far (p := ⟨gb452, 1, none⟩) (Kd.Q_far (p := ⟨gb452, 0, none⟩) (Kd.Q_types HO_438002.out BK452.out (by decide)) (fun _ hk => hk.2) (.int .i64 t446)) (fun _ hk => hk.2) (.int .i64 t447)) (fun _ hk => hk.2) (.slice Ao197 t448.length co197)) (fun _ h_ => h_.1))) hb); have n2_ := am_ (Kd.Q_below (by (with_reducible repeat (first | apply q1_ | apply q2_ | apply q3_)); exact (Kd.Q_mono (Kd.Q_far (p := ⟨gb452, 2, none⟩) (Kd.Q_far (p := ⟨gb452, 1, none⟩) (Kd.Q_far (p := ⟨gb452, 0, none⟩) (Kd.Q_types HO450.out BK452.out (by decide)) (fun _ hk => hk.2) (.int .i64 t446)) (fun _ hk => hk.2) (.int .i64 t447)) (fun _ hk => hk.2) (.slice Ao197 t448.length co197)) (fun _ h_ => h_.1))) hb); have n3_ := am_ (blk_below (g := gb402) (o := .cells #[.int .i64 t395, .int .i64 t396, .slice Ao11 t397.length co11] 37 (0, 0)) (by (with_reducible repeat (first | refine k1_ ?_ _ | refine k2_ ?_ | refine k3_ ?_ _)); refine blk_far ?_ NB402_452.out _; (with_reducible repeat (first | refine k1_ ?_ _ | refine k2_ ?_ | refine k3_ ?_ _)); refine blk_far ?_ NB402_452.out _; (with_reducible repeat (first | refine k1_ ?_ _ | refine k2_ ?_ | refine k3_ ?_ _)); refine blk_far ?_ NB402_452.out _; (with_reducible repeat (first | refine k1_ ?_ _ | refine k2_ ?_ | refine k3_ ?_ _)); exact BK402.out) hb); have n4_ := am_ (blk_below (g := gb437) (o := .cells #[.int .i64 t430, .int .i64 t431, .slice Ao142 t432.length co142] 37 (0, 0)) (by (with_reducible repeat (first | refine k1_ ?_ _ | refine k2_ ?_ | refine k3_ ?_ _)); refine blk_far ?_ NB437_452.out _; (with_reducible repeat (first | refine k1_ ?_ _ | refine k2_ ?_ | refine k3_ ?_ _)); refine blk_far ?_ NB437_452.out _; (with_reducible repeat (first | refine k1_ ?_ _ | refine k2_ ?_ | refine k3_ ?_ _)); refine blk_far ?_ NB437_452.out _; (with_reducible repeat (first | refine k1_ ?_ _ | refine k2_ ?_ | refine k3_ ?_ _)); exact BK437.out) hb); have n5_ := am_ (blk_below (g := gb452) (o := .cells #[.int .i64 t446, .int .i64 t447, .slice Ao197 t448.length co197] 37 (0, 0)) (by (with_reducible repeat (first | refine k1_ ?_ _ | refine k2_ ?_ | refine k3_ ?_ _)); refine blk_put (cs := #[.int .i64 t446, .int .i64 t447, .slice none 0 0]) ?_ 2 _ rfl; (with_reducible repeat (first | refine k1_ ?_ _ | refine k2_ ?_ | refine k3_ ?_ _)); refine blk_put (cs := #[.int .i64 t446, .int .i64 0, .slice none 0 0]) ?_ 1 _ rfl; (with_reducible repeat (first | refine k1_ ?_ _ | refine k2_ ?_ | refine k3_ ?_ _)); refine blk_put (cs := #[.int .i64 0, .int .i64 0, .slice none 0 0]) ?_ 0 _ rfl; (with_reducible repeat (first | refine k1_ ?_ _ | refine k2_ ?_ | refine k3_ ?_ _)); exact BK452.out) hb); have n6_ := am_ (below_step (by repeat (first | (with_reducible first | exact HB.out | apply b1_ | apply b2_ | apply b3_ | refine below_set ?_ GE402.out | refine below_set ?_ GE437.out | refine below_set ?_ GE452.out) | exact HB.out)) hb); replace HO_403002 := n0_; replace HO_438002 := n1_; replace HO450 := n2_; replace BK402 := n3_; replace BK437 := n4_; replace BK452 := n5_; replace HB := n6_; clear n0_ n1_ n2_ n3_ n4_ n5_ n6_; (try clear hb); (try clear hb2); (try clear hk); (try clear hi)))
          have n0_ := am_ (q3_ HO_403002.out)
          have n1_ := am_ (q3_ HO_438002.out)
          have n2_ := am_ (q3_ HO450.out)
          have n3_ := am_ (k2_ BK402.out)
          have n4_ := am_ (k2_ BK437.out)
          have n5_ := am_ (k2_ BK452.out)
          have n6_ := am_ (b3_ HB.out)
          replace HO_403002 := n0_
          replace HO_438002 := n1_
          replace HO450 := n2_
          replace BK402 := n3_
          replace BK437 := n4_
          replace BK452 := n5_
          replace HB := n6_
          clear n0_ n1_ n2_ n3_ n4_ n5_ n6_
          refine start_ (n := 26) (S := fun w' => w'.cell? ⟨gb452, 0, none⟩ = some (.int .i64 t446) ∧ w'.cell? ⟨gb452, 1, none⟩ = some (.int .i64 t447) ∧ w'.cell? ⟨gb452, 2, none⟩ = some (.slice Ao197 t448.length co197)) (ds := []) (bz 26 0) (by kernel_rfl) rfl rfl ⟨(blk_cell BK452.out 0).trans rfl, (blk_cell BK452.out 1).trans rfl, (blk_cell BK452.out 2).trans rfl⟩ (fun hHeld => ?_); refine with_tabW laws_FnWays.tab26 laws_FnWays.bits26 (fun HT_ HW_ => ?_)
          generalize w198.drew = w199 at HO_403002 HO_438002 HO450 BK402 BK437 BK452 HB hHeld ⊢
          refine pu_ 0 (some 197) ?_ (bz 26 1) rfl rfl (any_of HT_.out (by kernel_rfl)) (fun _ _ _ h => h) (Or.inl ⟨by rfl, ?_⟩) ?_ ?_ ?_; rotate_left; (intro w'; go_simp; with_reducible rfl); rotate_left; (simp only [Act.put, ls1, ls2, ls3, i64_w, i32_w]; rfl)
          refine pu_ 1 (some 198) ?_ (bz 26 3) rfl rfl (any_of HT_.out (by kernel_rfl)) (fun _ _ _ h => h) (Or.inl ⟨by rfl, ?_⟩) ?_ ?_ ?_; rotate_left; (intro w'; go_simp; with_reducible rfl); rotate_left; (simp only [Act.put, ls1, ls2, ls3, i64_w, i32_w]; rfl)
          refine pu_ 3 (some 200) ?_ (bz 26 11) rfl rfl (any_of HT_.out (by kernel_rfl)) (fun _ _ _ h => h) (Or.inl ⟨by rfl, ?_⟩) ?_ ?_ ?_; rotate_left; (intro w'; go_simp; with_reducible rfl); rotate_left; (simp only [Act.put, ls1, ls2, ls3, i64_w, i32_w]; rfl)
          refine take_ (i := 2) (N := some 199) (v := ?_) (a' := ?_) (bz 26 15) rfl rfl (take_ofW HT_.out HW_.out (by kernel_rfl)) (fun _ _ _ h => h) (Or.inl ⟨by rfl, ?_⟩) hHeld ?_ ?_; rotate_left; (rintro w' ⟨s0, s1, s2⟩; go_simp; with_reducible rfl); rotate_left; (simp only [Act.put, ls1, ls2, ls3, i64_w, i32_w]; rfl)
          refine one_ (i := 4) (N := some 201) (bz 26 31) rfl rfl (one_of HT_.out (by kernel_rfl)) (by decide) (fun K hK => ?_)
          refine goes_ Try.func34 (by kernel_rfl) rfl #[.agg #[.int .i64 t446, .int .i64 t447, .slice Ao197 t448.length co197], .int .i64 t451] (by rfl) rfl rfl (by (try simp only [mt_, mc_, mn_]); first | done | rfl | (simp only [ld_, lt_]; rfl)) ?_
          with_reducible refine (impl_IsOpen.calls kj135 t446 t447 _ _ t448 t451 t454 _ ?side1 ?side2 A163.out).mono ?_
          (case side1 => repeat (first | exact (Kd.Q_reads' HO450.out).2.2 | (with_reducible first | refine c1_ ?_ _ | refine c2_ ?_ _ | refine c3_ ?_)))
          (case side2 => exact (Kd.Q_reads' HO450.out).2.1)
          rintro e w200 ⟨rfl, hb⟩
          refine ⟨_, rfl, ?_⟩
          have n0_ := am_ (Kd.Q_below (by (with_reducible repeat (first | apply q1_ | apply q2_ | apply q3_)); exact HO_403002.out) hb)
          have n1_ := am_ (Kd.Q_below (by (with_reducible repeat (first | apply q1_ | apply q2_ | apply q3_)); exact HO_438002.out) hb)
          have n2_ := am_ (Kd.Q_below (by (with_reducible repeat (first | apply q1_ | apply q2_ | apply q3_)); exact HO450.out) hb)
          have n3_ := am_ (blk_below (g := gb402) (o := .cells #[.int .i64 t395, .int .i64 t396, .slice Ao11 t397.length co11] 37 (0, 0)) (by (with_reducible repeat (first | refine k1_ ?_ _ | refine k2_ ?_ | refine k3_ ?_ _)); exact BK402.out) hb)
          have n4_ := am_ (blk_below (g := gb437) (o := .cells #[.int .i64 t430, .int .i64 t431, .slice Ao142 t432.length co142] 37 (0, 0)) (by (with_reducible repeat (first | refine k1_ ?_ _ | refine k2_ ?_ | refine k3_ ?_ _)); exact BK437.out) hb)
          have n5_ := am_ (blk_below (g := gb452) (o := .cells #[.int .i64 t446, .int .i64 t447, .slice Ao197 t448.length co197] 37 (0, 0)) (by (with_reducible repeat (first | refine k1_ ?_ _ | refine k2_ ?_ | refine k3_ ?_ _)); exact BK452.out) hb)
          have n6_ := am_ (below_step (by repeat (first | (with_reducible first | exact HB.out | apply b1_ | apply b2_ | apply b3_ | refine below_set ?_ GE402.out | refine below_set ?_ GE437.out | refine below_set ?_ GE452.out) | exact HB.out)) hb)
          replace HO_403002 := n0_
          replace HO_438002 := n1_
          replace HO450 := n2_
          replace BK402 := n3_
          replace BK437 := n4_
          replace BK452 := n5_
          replace HB := n6_
          clear n0_ n1_ n2_ n3_ n4_ n5_ n6_
          (try clear hb)
          (try clear hb2)
          (try clear hk)
          (try clear hi)
          refine hK.out _ _ ⟨(blk_cell BK452.out 0).trans rfl, (blk_cell BK452.out 1).trans rfl, (blk_cell BK452.out 2).trans rfl⟩ (fun hHeld => ?_)
          clear hK K
          refine norm_ (a' := ?_) ?_ ?_
          rotate_left
          ·show Act.put _ (some 201) _ = _
           simp only [Act.put, ls1, ls2, ls3, i64_w, i32_w]
           rfl
          refine pu_ 5 (some 202) ?_ (bz 26 63) rfl rfl (any_of HT_.out (by kernel_rfl)) (fun _ _ _ h => h) (Or.inl ⟨by rfl, ?_⟩) ?_ ?_ ?_; rotate_left; (intro w'; go_simp; with_reducible rfl); rotate_left; (simp only [Act.put, ls1, ls2, ls3, i64_w, i32_w]; rfl)
          refine pu_ 6 (some 203) ?_ (bz 26 127) rfl rfl (any_of HT_.out (by kernel_rfl)) (fun _ _ _ h => h) (Or.inl ⟨by rfl, ?_⟩) ?_ ?_ ?_; rotate_left; (intro w'; go_simp; with_reducible rfl); rotate_left; (simp only [Act.put, ls1, ls2, ls3, i64_w, i32_w]; rfl)
          refine pu_ 7 (some 204) undef (bz 26 255) rfl rfl (any_of HT_.out (by kernel_rfl)) (fun _ _ _ h => h) (Or.inr ⟨by rfl, rfl⟩) ?_ ?_ ?_
          rotate_left
          ·simp only [Act.put, ls1, ls2, ls3, i64_w, i32_w]
           rfl
          refine pu_ 8 (some 205) undef (bz 26 511) rfl rfl (any_of HT_.out (by kernel_rfl)) (fun _ _ _ h => h) (Or.inr ⟨by rfl, rfl⟩) ?_ ?_ ?_
          rotate_left
          ·simp only [Act.put, ls1, ls2, ls3, i64_w, i32_w]
           rfl
          refine pu_ 9 (some 206) undef (bz 26 1023) rfl rfl (any_of HT_.out (by kernel_rfl)) (fun _ _ _ h => h) (Or.inr ⟨by rfl, rfl⟩) ?_ ?_ ?_
          rotate_left
          ·simp only [Act.put, ls1, ls2, ls3, i64_w, i32_w]
           rfl
          refine pu_ 10 (some 207) undef (bz 26 2047) rfl rfl (any_of HT_.out (by kernel_rfl)) (fun _ _ _ h => h) (Or.inr ⟨by rfl, rfl⟩) ?_ ?_ ?_
          rotate_left
          ·simp only [Act.put, ls1, ls2, ls3, i64_w, i32_w]
           rfl
          refine pu_ 11 (some 208) undef (bz 26 4095) rfl rfl (any_of HT_.out (by kernel_rfl)) (fun _ _ _ h => h) (Or.inr ⟨by rfl, rfl⟩) ?_ ?_ ?_
          rotate_left
          ·simp only [Act.put, ls1, ls2, ls3, i64_w, i32_w]
           rfl
          refine pu_ 12 (some 209) undef (bz 26 8191) rfl rfl (any_of HT_.out (by kernel_rfl)) (fun _ _ _ h => h) (Or.inr ⟨by rfl, rfl⟩) ?_ ?_ ?_
          rotate_left
          ·simp only [Act.put, ls1, ls2, ls3, i64_w, i32_w]
           rfl
          refine pu_ 13 (some 210) undef (bz 26 16383) rfl rfl (any_of HT_.out (by kernel_rfl)) (fun _ _ _ h => h) (Or.inr ⟨by rfl, rfl⟩) ?_ ?_ ?_
          rotate_left
          ·simp only [Act.put, ls1, ls2, ls3, i64_w, i32_w]
           rfl
          refine pu_ 14 (some 211) undef (bz 26 32767) rfl rfl (any_of HT_.out (by kernel_rfl)) (fun _ _ _ h => h) (Or.inr ⟨by rfl, rfl⟩) ?_ ?_ ?_
          rotate_left
          ·simp only [Act.put, ls1, ls2, ls3, i64_w, i32_w]
           rfl
          refine pu_ 15 (some 212) undef (bz 26 65535) rfl rfl (any_of HT_.out (by kernel_rfl)) (fun _ _ _ h => h) (Or.inr ⟨by rfl, rfl⟩) ?_ ?_ ?_
          rotate_left
          ·simp only [Act.put, ls1, ls2, ls3, i64_w, i32_w]
           rfl
          refine pu_ 16 (some 213) undef (bz 26 131071) rfl rfl (any_of HT_.out (by kernel_rfl)) (fun _ _ _ h => h) (Or.inr ⟨by rfl, rfl⟩) ?_ ?_ ?_
          rotate_left
          ·simp only [Act.put, ls1, ls2, ls3, i64_w, i32_w]
           rfl
          refine pu_ 17 (some 214) undef (bz 26 262143) rfl rfl (any_of HT_.out (by kernel_rfl)) (fun _ _ _ h => h) (Or.inr ⟨by rfl, rfl⟩) ?_ ?_ ?_
          rotate_left
          ·simp only [Act.put, ls1, ls2, ls3, i64_w, i32_w]
           rfl
          refine pu_ 18 (some 215) undef (bz 26 524287) rfl rfl (any_of HT_.out (by kernel_rfl)) (fun _ _ _ h => h) (Or.inr ⟨by rfl, rfl⟩) ?_ ?_ ?_
          rotate_left
          ·simp only [Act.put, ls1, ls2, ls3, i64_w, i32_w]
           rfl
          refine pu_ 19 (some 216) undef (bz 26 1048575) rfl rfl (any_of HT_.out (by kernel_rfl)) (fun _ _ _ h => h) (Or.inr ⟨by rfl, rfl⟩) ?_ ?_ ?_
          rotate_left
          ·simp only [Act.put, ls1, ls2, ls3, i64_w, i32_w]
           rfl
          refine pu_ 20 (some 217) undef (bz 26 2097151) rfl rfl (any_of HT_.out (by kernel_rfl)) (fun _ _ _ h => h) (Or.inr ⟨by rfl, rfl⟩) ?_ ?_ ?_
          rotate_left
          ·simp only [Act.put, ls1, ls2, ls3, i64_w, i32_w]
           rfl
          refine pu_ 21 (some 218) undef (bz 26 4194303) rfl rfl (any_of HT_.out (by kernel_rfl)) (fun _ _ _ h => h) (Or.inr ⟨by rfl, rfl⟩) ?_ ?_ ?_
          rotate_left
          ·simp only [Act.put, ls1, ls2, ls3, i64_w, i32_w]
           rfl
          refine pu_ 22 (some 219) undef (bz 26 8388607) rfl rfl (any_of HT_.out (by kernel_rfl)) (fun _ _ _ h => h) (Or.inr ⟨by rfl, rfl⟩) ?_ ?_ ?_
          rotate_left
          ·simp only [Act.put, ls1, ls2, ls3, i64_w, i32_w]
           rfl
          refine pu_ 23 (some 220) undef (bz 26 16777215) rfl rfl (any_of HT_.out (by kernel_rfl)) (fun _ _ _ h => h) (Or.inr ⟨by rfl, rfl⟩) ?_ ?_ ?_
          rotate_left
          ·simp only [Act.put, ls1, ls2, ls3, i64_w, i32_w]
           rfl
          refine pu_ 24 (some 221) ?_ (bz 26 33554431) rfl rfl (any_of HT_.out (by kernel_rfl)) (fun _ _ _ h => h) (Or.inl ⟨by rfl, ?_⟩) ?_ ?_ ?_; rotate_left; (intro w'; go_simp; with_reducible rfl); rotate_left; (simp only [Act.put, ls1, ls2, ls3, i64_w, i32_w]; rfl)
          refine pu_ 25 (some 2) ?_ (bz 26 67108863) rfl rfl (any_of HT_.out (by kernel_rfl)) (fun _ _ _ h => h) (Or.inl ⟨by rfl, ?_⟩) ?_ ?_ ?_; rotate_left; (intro w'; go_simp; with_reducible rfl); rotate_left; (simp only [Act.put, ls1, ls2, ls3, i64_w, i32_w]; rfl)
          refine done_ (done_of HT_.out (by kernel_rfl)) ?_
          try go_wp2
          go_ret
          exact ⟨by first | rfl | (simp [errW_none, errW_some] <;> rfl) | (simp [*, errW_none, errW_some] <;> rfl), by repeat (first | (with_reducible first | exact HB.out | apply b1_ | apply b2_ | apply b3_ | refine below_set ?_ GE402.out | refine below_set ?_ GE437.out | refine below_set ?_ GE452.out) | exact HB.out)⟩
         rw [if_pos c164] at H
         have c164b0 : ((decide (t453 ≥ 0)) == t454) = true := c164
         (try (have c164b1 : decide ((decide (t453 ≥ 0)) = t454) = true := by simpa using c164))
         (try (have c164b2 : ((decide (t453 ≥ 0)) == t454) = true := by simpa using c164))
         clear c164
         by_cases c165 : t453 < 0
         ·rw [if_pos c165] at H
          have c165b0 : decide (t453 < 0) = true := decide_eq_true c165
          clear c165
          obtain rfl := Option.some.inj H
          try go_wp2_with (first | ((with_reducible refine gate_callee (f := 39) rfl ?_); refine goesL_ (some 191) rfl rfl Try.func39 (by kernel_rfl) rfl #[.slice A0 l0.length c0] rfl (by (try simp only [mt_, mc_, mn_]); first | done | rfl | (simp only [ld_, lt_]; rfl)) ?_; (with_reducible refine (spec_DrawFarthest.calls kj135 _ _ l0 t446 t447 t448 t451 _ ?side1 ?side2 A161.out).mono ?_); (case side1 => repeat (first | exact (Kd.C_below HR0.out HB.out) | (with_reducible first | refine c1_ ?_ _ | refine c2_ ?_ _ | refine c3_ ?_))); (case side2 => exact HC0.out); rintro e w166 ⟨v449, rfl, ho0, hb⟩; refine ⟨_, rfl, ?_⟩; have n0_ := am_ (Kd.Q_elder' (by (with_reducible repeat (first | apply q1_ | apply q2_ | apply q3_)); exact HO_403002.out) (Kd.Q_base ho0) hb); have n1_ := am_ (Kd.Q_elder' (by (with_reducible repeat (first | apply q1_ | apply q2_ | apply q3_)); exact HO_438002.out) (Kd.Q_base ho0) hb); have n2_ := am_ (Kd.Q_lower (Kd.Q_new' (Kd.Q_new' ho0 (Kd.Q_lt (by (with_reducible repeat (first | apply q1_ | apply q2_ | apply q3_)); exact HO_403002.out))) (Kd.Q_lt (by (with_reducible repeat (first | apply q1_ | apply q2_ | apply q3_)); exact HO_438002.out))) (below_size (by repeat (first | (with_reducible first | exact HB.out | apply b1_ | apply b2_ | apply b3_ | refine below_set ?_ GE402.out | refine below_set ?_ GE437.out) | exact HB.out)))); have n3_ := am_ (blk_below (g := gb402) (o := .cells #[.int .i64 t395, .int .i64 t396, .slice Ao11 t397.length co11] 37 (0, 0)) (by (with_reducible repeat (first | refine k1_ ?_ _ | refine k2_ ?_ | refine k3_ ?_ _)); exact BK402.out) hb); have n4_ := am_ (blk_below (g := gb437) (o := .cells #[.int .i64 t430, .int .i64 t431, .slice Ao142 t432.length co142] 37 (0, 0)) (by (with_reducible repeat (first | refine k1_ ?_ _ | refine k2_ ?_ | refine k3_ ?_ _)); exact BK437.out) hb); have n5_ := am_ (below_step (by repeat (first | (with_reducible first | exact HB.out | apply b1_ | apply b2_ | apply b3_ | refine below_set ?_ GE402.out | refine below_set ?_ GE437.out) | exact HB.out)) hb); replace HO_403002 := n0_; replace HO_438002 := n1_; have HO450 := n2_; replace BK402 := n3_; replace BK437 := n4_; replace HB := n5_; clear n0_ n1_ n2_ n3_ n4_ n5_; (try clear hb); (try clear hb2); (try clear hk); (try clear hi); (try clear ho0)) | ((with_reducible refine gate_dst (N := 16) rfl ?_); (try (refine gate_guard (by rfl) ?_; dsimp only)); refine box_event ?hg (N := 16) ?hd (cs := #[.int .i64 0, .int .i64 0, .slice none 0 0]) (t := 37) ?hr ?_; (case hd => rfl); (case hg => rfl); (case hr => first | (go_simp; done) | (go_simp; rfl)); intro gb452 hg w167 hbox hb; have n0_ := am_ (Kd.Q_below (by (with_reducible repeat (first | apply q1_ | apply q2_ | apply q3_)); exact HO_403002.out) hb); have n1_ := am_ (Kd.Q_below (by (with_reducible repeat (first | apply q1_ | apply q2_ | apply q3_)); exact HO_438002.out) hb); have n2_ := am_ (Kd.Q_below (by (with_reducible repeat (first | apply q1_ | apply q2_ | apply q3_)); exact HO450.out) hb); have n3_ := am_ (blk_below (g := gb402) (o := .cells #[.int .i64 t395, .int .i64 t396, .slice Ao11 t397.length co11] 37 (0, 0)) (by (with_reducible repeat (first | refine k1_ ?_ _ | refine k2_ ?_ | refine k3_ ?_ _)); exact BK402.out) hb); have n4_ := am_ (blk_below (g := gb437) (o := .cells #[.int .i64 t430, .int .i64 t431, .slice Ao142 t432.length co142] 37 (0, 0)) (by (with_reducible repeat (first | refine k1_ ?_ _ | refine k2_ ?_ | refine k3_ ?_ _)); exact BK437.out) hb); have n5_ := am_ (below_step (by repeat (first | (with_reducible first | exact HB.out | apply b1_ | apply b2_ | apply b3_ | refine below_set ?_ GE402.out | refine below_set ?_ GE437.out) | exact HB.out)) hb); have n6_ := am_ (hbox); have n7_ := am_ ((by rw [hg]; exact (below_size (by repeat (first | (with_reducible first | exact HB.out | apply b1_ | apply b2_ | apply b3_ | refine below_set ?_ GE402.out | refine below_set ?_ GE437.out) | exact HB.out))) : w.heap.size ≤ gb452)); have n8_ := am_ ((by rw [hg]; exact (below_size (by repeat (first | (with_reducible first | exact HB.out | apply b1_ | apply b2_ | apply b3_ | refine below_set ?_ GE402.out | refine below_set ?_ GE437.out) | exact HB.out))) : w.heap.size ≤ gb452)); have n9_ := am_ ((by rw [hg]; exact Nat.ne_of_lt (blk_lt (g := gb402) (o := .cells #[.int .i64 t395, .int .i64 t396, .slice Ao11 t397.length co11] 37 (0, 0)) (by (with_reducible repeat (first | refine k1_ ?_ _ | refine k2_ ?_ | refine k3_ ?_ _)); exact BK402.out)) : gb402 ≠ gb452)); have n10_ := am_ ((by rw [hg]; exact Nat.ne_of_gt (blk_lt (g := gb402) (o := .cells #[.int .i64 t395, .int .i64 t396, .slice Ao11 t397.length co11] 37 (0, 0)) (by (with_reducible repeat (first | refine k1_ ?_ _ | refine k2_ ?_ | refine k3_ ?_ _)); exact BK402.out)) : gb452 ≠ gb402)); have n11_ := am_ ((by rw [hg]; exact Nat.ne_of_lt (blk_lt (g := gb437) (o := .cells #[.int .i64 t430, .int .i64 t431, .slice Ao142 t432.length co142] 37 (0, 0)) (by (with_reducible repeat (first | refine k1_ ?_ _ | refine k2_ ?_ | refine k3_ ?_ _)); exact BK437.out)) : gb437 ≠ gb452)); have n12_ := am_ ((by rw [hg]; exact Nat.ne_of_gt (blk_lt (g := gb437) (o := .cells #[.int .i64 t430, .int .i64 t431, .slice Ao142 t432.length co142] 37 (0, 0)) (by (with_reducible repeat (first | refine k1_ ?_ _ | refine k2_ ?_ | refine k3_ ?_ _)); exact BK437.out)) : gb452 ≠ gb437)); replace HO_403002 := n0_; replace HO_438002 := n1_; replace HO450 := n2_; replace BK402 := n3_; replace BK437 := n4_; replace HB := n5_; have BK452 := n6_; have GW452 := n7_; have GE452 := n8_; have NB402_452 := n9_; have NB452_402 := n10_; have NB437_452 := n11_; have NB452_437 := n12_; clear n0_ n1_ n2_ n3_ n4_ n5_ n6_ n7_ n8_ n9_ n10_ n11_ n12_; clear hb hbox hg; have hnb168 := NB452_402.out; have hnc168 := NB402_452.out; have hnb169 := NB452_437.out; have hnc169 := NB437_452.out; have hcz170_0 : w167.cell? ⟨gb452, 0, none⟩ = some (.int .i64 0) := (blk_cell BK452.out 0).trans rfl; have hcz170_1 : w167.cell? ⟨gb452, 1, none⟩ = some (.int .i64 0) := (blk_cell BK452.out 1).trans rfl; have hcz170_2 : w167.cell? ⟨gb452, 2, none⟩ = some (.slice none 0 0) := (blk_cell BK452.out 2).trans rfl; have hfz170_0 := blk_frozen BK452.out 0; have hfz170_1 := blk_frozen BK452.out 1; have hfz170_2 := blk_frozen BK452.out 2; obtain ⟨Ao171, co171, eo171, _⟩ := Kd.Q_slice HO450.out; subst eo171) | ((with_reducible refine gate_callee (f := 40) rfl ?_); refine goesL_ (some 196) rfl rfl Try.func40 (by kernel_rfl) rfl #[.agg #[.int .i64 t446, .int .i64 t447, .slice Ao171 t448.length co171], .int .i64 t451] rfl (by (try simp only [mt_, mc_, mn_]); first | done | rfl | (simp only [ld_, lt_]; rfl)) ?_; (with_reducible refine (impl_Farthest.calls kj135 t446 t447 _ _ t448 t451 t453 _ ?side1 ?side2 A162.out).mono ?_); (case side1 => refine (Kd.Q_reads' (e := 3) (base := w.heap.size) (ok := fun k_ => ((True ∧ some k_ ≠ (.slice Ao11 t397.length co11 : Value).ownBlock) ∧ some k_ ≠ (.slice Ao142 t432.length co142 : Value).ownBlock)) (n := t448.length) (c := co171) ?_).2.2; exact (by (with_reducible repeat (first | apply q1_ | apply q2_ | apply q3_)); exact (Kd.Q_mono (Kd.Q_far (p := ⟨gb452, 2, none⟩) (Kd.Q_far (p := ⟨gb452, 1, none⟩) (Kd.Q_far (p := ⟨gb452, 0, none⟩) (Kd.Q_types HO450.out BK452.out (by decide)) (fun _ hk => hk.2) (.int .i64 t446)) (fun _ hk => hk.2) (.int .i64 t447)) (fun _ hk => hk.2) (.slice Ao171 t448.length co171)) (fun _ h_ => h_.1)))); (case side2 => exact (Kd.Q_reads' HO450.out).2.1); rintro e w172 ⟨rfl, hb⟩; refine ⟨_, rfl, ?_⟩; have n0_ := am_ (Kd.Q_below (by (with_reducible repeat (first | apply q1_ | apply q2_ | apply q3_)); exact (Kd.Q_mono (Kd.Q_far (p := ⟨gb452, 2, none⟩) (Kd.Q_far (p := ⟨gb452, 1, none⟩) (Kd.Q_far (p := ⟨gb452, 0, none⟩) (Kd.Q_types HO_403002.out BK452.out (by decide)) (fun _ hk => hk.2) (.int .i64 t446)) (fun _ hk => hk.2) (.int .i64 t447)) (fun _ hk => hk.2) (.slice Ao171 t448.length co171)) (fun _ h_ => h_.1))) hb); have n1_ := am_ (Kd.Q_below (by (with_reducible repeat (first | apply q1_ | apply q2_ | apply q3_)); exact (Kd.Q_mono (Kd.Q_far (p := ⟨gb452, 2, none⟩) (Kd.Q_far (p := ⟨gb452, 1, none⟩) (Kd.Q_far (p := ⟨gb452, 0, none⟩) (Kd.Q_types HO_438002.out BK452.out (by decide)) (fun _ hk => hk.2) (.int .i64 t446)) (fun _ hk => hk.2) (.int .i64 t447)) (fun _ hk => hk.2) (.slice Ao171 t448.length co171)) (fun _ h_ => h_.1))) hb); have n2_ := am_ (Kd.Q_below (by (with_reducible repeat (first | apply q1_ | apply q2_ | apply q3_)); exact (Kd.Q_mono (Kd.Q_far (p := ⟨gb452, 2, none⟩) (Kd.Q_far (p := ⟨gb452, 1, none⟩) (Kd.Q_far (p := ⟨gb452, 0, none⟩) (Kd.Q_types HO450.out BK452.out (by decide)) (fun _ hk => hk.2) (.int .i64 t446)) (fun _ hk => hk.2) (.int .i64 t447)) (fun _ hk => hk.2) (.slice Ao171 t448.length co171)) (fun _ h_ => h_.1))) hb); have n3_ := am_ (blk_below (g := gb402) (o := .cells #[.int .i64 t395, .int .i64 t396, .slice Ao11 t397.length co11] 37 (0, 0)) (by (with_reducible repeat (first | refine k1_ ?_ _ | refine k2_ ?_ | refine k3_ ?_ _)); refine blk_far ?_ NB402_452.out _; (with_reducible repeat (first | refine k1_ ?_ _ | refine k2_ ?_ | refine k3_ ?_ _)); refine blk_far ?_ NB402_452.out _; (with_reducible repeat (first | refine k1_ ?_ _ | refine k2_ ?_ | refine k3_ ?_ _)); refine blk_far ?_ NB402_452.out _; (with_reducible repeat (first | refine k1_ ?_ _ | refine k2_ ?_ | refine k3_ ?_ _)); exact BK402.out) hb); have n4_ := am_ (blk_below (g := gb437) (o := .cells #[.int .i64 t430, .int .i64 t431, .slice Ao142 t432.length co142] 37 (0, 0)) (by (with_reducible repeat (first | refine k1_ ?_ _ | refine k2_ ?_ | refine k3_ ?_ _)); refine blk_far ?_ NB437_452.out _; (with_reducible repeat (first | refine k1_ ?_ _ | refine k2_ ?_ | refine k3_ ?_ _)); refine blk_far ?_ NB437_452.out _; (with_reducible repeat (first | refine k1_ ?_ _ | refine k2_ ?_ | refine k3_ ?_ _)); refine blk_far ?_ NB437_452.out _; (with_reducible repeat (first | refine k1_ ?_ _ | refine k2_ ?_ | refine k3_ ?_ _)); exact BK437.out) hb); have n5_ := am_ (blk_below (g := gb452) (o := .cells #[.int .i64 t446, .int .i64 t447, .slice Ao171 t448.length co171] 37 (0, 0)) (by (with_reducible repeat (first | refine k1_ ?_ _ | refine k2_ ?_ | refine k3_ ?_ _)); refine blk_put (cs := #[.int .i64 t446, .int .i64 t447, .slice none 0 0]) ?_ 2 _ rfl; (with_reducible repeat (first | refine k1_ ?_ _ | refine k2_ ?_ | refine k3_ ?_ _)); refine blk_put (cs := #[.int .i64 t446, .int .i64 0, .slice none 0 0]) ?_ 1 _ rfl; (with_reducible repeat (first | refine k1_ ?_ _ | refine k2_ ?_ | refine k3_ ?_ _)); refine blk_put (cs := #[.int .i64 0, .int .i64 0, .slice none 0 0]) ?_ 0 _ rfl; (with_reducible repeat (first | refine k1_ ?_ _ | refine k2_ ?_ | refine k3_ ?_ _)); exact BK452.out) hb); have n6_ := am_ (below_step (by repeat (first | (with_reducible first | exact HB.out | apply b1_ | apply b2_ | apply b3_ | refine below_set ?_ GE402.out | refine below_set ?_ GE437.out | refine below_set ?_ GE452.out) | exact HB.out)) hb); replace HO_403002 := n0_; replace HO_438002 := n1_; replace HO450 := n2_; replace BK402 := n3_; replace BK437 := n4_; replace BK452 := n5_; replace HB := n6_; clear n0_ n1_ n2_ n3_ n4_ n5_ n6_; (try clear hb); (try clear hb2); (try clear hk); (try clear hi)))
          have n0_ := am_ (q3_ HO_403002.out)
          have n1_ := am_ (q3_ HO_438002.out)
          have n2_ := am_ (q3_ HO450.out)
          have n3_ := am_ (k2_ BK402.out)
          have n4_ := am_ (k2_ BK437.out)
          have n5_ := am_ (k2_ BK452.out)
          have n6_ := am_ (b3_ HB.out)
          replace HO_403002 := n0_
          replace HO_438002 := n1_
          replace HO450 := n2_
          replace BK402 := n3_
          replace BK437 := n4_
          replace BK452 := n5_
          replace HB := n6_
          clear n0_ n1_ n2_ n3_ n4_ n5_ n6_
          refine start_ (n := 26) (S := fun w' => w'.cell? ⟨gb452, 0, none⟩ = some (.int .i64 t446) ∧ w'.cell? ⟨gb452, 1, none⟩ = some (.int .i64 t447) ∧ w'.cell? ⟨gb452, 2, none⟩ = some (.slice Ao171 t448.length co171)) (ds := []) (bz 26 0) (by kernel_rfl) rfl rfl ⟨(blk_cell BK452.out 0).trans rfl, (blk_cell BK452.out 1).trans rfl, (blk_cell BK452.out 2).trans rfl⟩ (fun hHeld => ?_); refine with_tabW laws_FnWays.tab26 laws_FnWays.bits26 (fun HT_ HW_ => ?_)
          generalize w172.drew = w173 at HO_403002 HO_438002 HO450 BK402 BK437 BK452 HB hHeld ⊢
          refine pu_ 0 (some 197) ?_ (bz 26 1) rfl rfl (any_of HT_.out (by kernel_rfl)) (fun _ _ _ h => h) (Or.inl ⟨by rfl, ?_⟩) ?_ ?_ ?_; rotate_left; (intro w'; go_simp; with_reducible rfl); rotate_left; (simp only [Act.put, ls1, ls2, ls3, i64_w, i32_w]; rfl)
          refine pu_ 1 (some 198) ?_ (bz 26 3) rfl rfl (any_of HT_.out (by kernel_rfl)) (fun _ _ _ h => h) (Or.inl ⟨by rfl, ?_⟩) ?_ ?_ ?_; rotate_left; (intro w'; go_simp; with_reducible rfl); rotate_left; (simp only [Act.put, ls1, ls2, ls3, i64_w, i32_w]; rfl)
          refine pu_ 3 (some 200) ?_ (bz 26 11) rfl rfl (any_of HT_.out (by kernel_rfl)) (fun _ _ _ h => h) (Or.inl ⟨by rfl, ?_⟩) ?_ ?_ ?_; rotate_left; (intro w'; go_simp; with_reducible rfl); rotate_left; (simp only [Act.put, ls1, ls2, ls3, i64_w, i32_w]; rfl)
          refine take_ (i := 2) (N := some 199) (v := ?_) (a' := ?_) (bz 26 15) rfl rfl (take_ofW HT_.out HW_.out (by kernel_rfl)) (fun _ _ _ h => h) (Or.inl ⟨by rfl, ?_⟩) hHeld ?_ ?_; rotate_left; (rintro w' ⟨s0, s1, s2⟩; go_simp; with_reducible rfl); rotate_left; (simp only [Act.put, ls1, ls2, ls3, i64_w, i32_w]; rfl)
          refine one_ (i := 4) (N := some 201) (bz 26 31) rfl rfl (one_of HT_.out (by kernel_rfl)) (by decide) (fun K hK => ?_)
          refine goes_ Try.func34 (by kernel_rfl) rfl #[.agg #[.int .i64 t446, .int .i64 t447, .slice Ao171 t448.length co171], .int .i64 t451] (by rfl) rfl rfl (by (try simp only [mt_, mc_, mn_]); first | done | rfl | (simp only [ld_, lt_]; rfl)) ?_
          with_reducible refine (impl_IsOpen.calls kj135 t446 t447 _ _ t448 t451 t454 _ ?side1 ?side2 A163.out).mono ?_
          (case side1 => repeat (first | exact (Kd.Q_reads' HO450.out).2.2 | (with_reducible first | refine c1_ ?_ _ | refine c2_ ?_ _ | refine c3_ ?_)))
          (case side2 => exact (Kd.Q_reads' HO450.out).2.1)
          rintro e w174 ⟨rfl, hb⟩
          refine ⟨_, rfl, ?_⟩
          have n0_ := am_ (Kd.Q_below (by (with_reducible repeat (first | apply q1_ | apply q2_ | apply q3_)); exact HO_403002.out) hb)
          have n1_ := am_ (Kd.Q_below (by (with_reducible repeat (first | apply q1_ | apply q2_ | apply q3_)); exact HO_438002.out) hb)
          have n2_ := am_ (Kd.Q_below (by (with_reducible repeat (first | apply q1_ | apply q2_ | apply q3_)); exact HO450.out) hb)
          have n3_ := am_ (blk_below (g := gb402) (o := .cells #[.int .i64 t395, .int .i64 t396, .slice Ao11 t397.length co11] 37 (0, 0)) (by (with_reducible repeat (first | refine k1_ ?_ _ | refine k2_ ?_ | refine k3_ ?_ _)); exact BK402.out) hb)
          have n4_ := am_ (blk_below (g := gb437) (o := .cells #[.int .i64 t430, .int .i64 t431, .slice Ao142 t432.length co142] 37 (0, 0)) (by (with_reducible repeat (first | refine k1_ ?_ _ | refine k2_ ?_ | refine k3_ ?_ _)); exact BK437.out) hb)
          have n5_ := am_ (blk_below (g := gb452) (o := .cells #[.int .i64 t446, .int .i64 t447, .slice Ao171 t448.length co171] 37 (0, 0)) (by (with_reducible repeat (first | refine k1_ ?_ _ | refine k2_ ?_ | refine k3_ ?_ _)); exact BK452.out) hb)
          have n6_ := am_ (below_step (by repeat (first | (with_reducible first | exact HB.out | apply b1_ | apply b2_ | apply b3_ | refine below_set ?_ GE402.out | refine below_set ?_ GE437.out | refine below_set ?_ GE452.out) | exact HB.out)) hb)
          replace HO_403002 := n0_
          replace HO_438002 := n1_
          replace HO450 := n2_
          replace BK402 := n3_
          replace BK437 := n4_
          replace BK452 := n5_
          replace HB := n6_
          clear n0_ n1_ n2_ n3_ n4_ n5_ n6_
          (try clear hb)
          (try clear hb2)
          (try clear hk)
          (try clear hi)
          refine hK.out _ _ ⟨(blk_cell BK452.out 0).trans rfl, (blk_cell BK452.out 1).trans rfl, (blk_cell BK452.out 2).trans rfl⟩ (fun hHeld => ?_)
          clear hK K
          refine norm_ (a' := ?_) ?_ ?_
          rotate_left
          ·show Act.put _ (some 201) _ = _
           simp only [Act.put, ls1, ls2, ls3, i64_w, i32_w]
           rfl
          refine pu_ 5 (some 202) ?_ (bz 26 63) rfl rfl (any_of HT_.out (by kernel_rfl)) (fun _ _ _ h => h) (Or.inl ⟨by rfl, ?_⟩) ?_ ?_ ?_; rotate_left; (intro w'; go_simp; with_reducible rfl); rotate_left; (simp only [Act.put, ls1, ls2, ls3, i64_w, i32_w]; rfl)
          refine pu_ 6 (some 203) ?_ (bz 26 127) rfl rfl (any_of HT_.out (by kernel_rfl)) (fun _ _ _ h => h) (Or.inl ⟨by rfl, ?_⟩) ?_ ?_ ?_; rotate_left; (intro w'; go_simp; with_reducible rfl); rotate_left; (simp only [Act.put, ls1, ls2, ls3, i64_w, i32_w]; rfl)
          refine pu_ 7 (some 204) ?_ (bz 26 255) rfl rfl (any_of HT_.out (by kernel_rfl)) (fun _ _ _ h => h) (Or.inl ⟨by rfl, ?_⟩) ?_ ?_ ?_; rotate_left; (intro w'; go_simp; with_reducible rfl); rotate_left; (simp only [Act.put, ls1, ls2, ls3, i64_w, i32_w]; rfl)
          refine pu_ 8 (some 205) ?_ (bz 26 511) rfl rfl (any_of HT_.out (by kernel_rfl)) (fun _ _ _ h => h) (Or.inl ⟨by rfl, ?_⟩) ?_ ?_ ?_; rotate_left; (intro w'; go_simp; with_reducible rfl); rotate_left; (simp only [Act.put, ls1, ls2, ls3, i64_w, i32_w]; rfl)
          refine pu_ 9 (some 206) ?_ (bz 26 1023) rfl rfl (any_of HT_.out (by kernel_rfl)) (fun _ _ _ h => h) (Or.inl ⟨by rfl, ?_⟩) ?_ ?_ ?_; rotate_left; (intro w'; go_simp; with_reducible rfl); rotate_left; (simp only [Act.put, ls1, ls2, ls3, i64_w, i32_w]; rfl)
          refine pu_ 10 (some 207) undef (bz 26 2047) rfl rfl (any_of HT_.out (by kernel_rfl)) (fun _ _ _ h => h) (Or.inr ⟨by rfl, rfl⟩) ?_ ?_ ?_
          rotate_left
          ·simp only [Act.put, ls1, ls2, ls3, i64_w, i32_w]
           rfl
          refine pu_ 11 (some 208) undef (bz 26 4095) rfl rfl (any_of HT_.out (by kernel_rfl)) (fun _ _ _ h => h) (Or.inr ⟨by rfl, rfl⟩) ?_ ?_ ?_
          rotate_left
          ·simp only [Act.put, ls1, ls2, ls3, i64_w, i32_w]
           rfl
          refine pu_ 12 (some 209) undef (bz 26 8191) rfl rfl (any_of HT_.out (by kernel_rfl)) (fun _ _ _ h => h) (Or.inr ⟨by rfl, rfl⟩) ?_ ?_ ?_
          rotate_left
          ·simp only [Act.put, ls1, ls2, ls3, i64_w, i32_w]
           rfl
          refine pu_ 13 (some 210) undef (bz 26 16383) rfl rfl (any_of HT_.out (by kernel_rfl)) (fun _ _ _ h => h) (Or.inr ⟨by rfl, rfl⟩) ?_ ?_ ?_
          rotate_left
          ·simp only [Act.put, ls1, ls2, ls3, i64_w, i32_w]
           rfl
          refine pu_ 14 (some 211) undef (bz 26 32767) rfl rfl (any_of HT_.out (by kernel_rfl)) (fun _ _ _ h => h) (Or.inr ⟨by rfl, rfl⟩) ?_ ?_ ?_
          rotate_left
          ·simp only [Act.put, ls1, ls2, ls3, i64_w, i32_w]
           rfl
          refine pu_ 15 (some 212) undef (bz 26 65535) rfl rfl (any_of HT_.out (by kernel_rfl)) (fun _ _ _ h => h) (Or.inr ⟨by rfl, rfl⟩) ?_ ?_ ?_
          rotate_left
          ·simp only [Act.put, ls1, ls2, ls3, i64_w, i32_w]
           rfl
          refine pu_ 16 (some 213) undef (bz 26 131071) rfl rfl (any_of HT_.out (by kernel_rfl)) (fun _ _ _ h => h) (Or.inr ⟨by rfl, rfl⟩) ?_ ?_ ?_
          rotate_left
          ·simp only [Act.put, ls1, ls2, ls3, i64_w, i32_w]
           rfl
          refine pu_ 17 (some 214) undef (bz 26 262143) rfl rfl (any_of HT_.out (by kernel_rfl)) (fun _ _ _ h => h) (Or.inr ⟨by rfl, rfl⟩) ?_ ?_ ?_
          rotate_left
          ·simp only [Act.put, ls1, ls2, ls3, i64_w, i32_w]
           rfl
          refine pu_ 18 (some 215) undef (bz 26 524287) rfl rfl (any_of HT_.out (by kernel_rfl)) (fun _ _ _ h => h) (Or.inr ⟨by rfl, rfl⟩) ?_ ?_ ?_
          rotate_left
          ·simp only [Act.put, ls1, ls2, ls3, i64_w, i32_w]
           rfl
          refine pu_ 19 (some 216) undef (bz 26 1048575) rfl rfl (any_of HT_.out (by kernel_rfl)) (fun _ _ _ h => h) (Or.inr ⟨by rfl, rfl⟩) ?_ ?_ ?_
          rotate_left
          ·simp only [Act.put, ls1, ls2, ls3, i64_w, i32_w]
           rfl
          refine pu_ 20 (some 217) undef (bz 26 2097151) rfl rfl (any_of HT_.out (by kernel_rfl)) (fun _ _ _ h => h) (Or.inr ⟨by rfl, rfl⟩) ?_ ?_ ?_
          rotate_left
          ·simp only [Act.put, ls1, ls2, ls3, i64_w, i32_w]
           rfl
          refine pu_ 21 (some 218) undef (bz 26 4194303) rfl rfl (any_of HT_.out (by kernel_rfl)) (fun _ _ _ h => h) (Or.inr ⟨by rfl, rfl⟩) ?_ ?_ ?_
          rotate_left
          ·simp only [Act.put, ls1, ls2, ls3, i64_w, i32_w]
           rfl
          refine pu_ 22 (some 219) undef (bz 26 8388607) rfl rfl (any_of HT_.out (by kernel_rfl)) (fun _ _ _ h => h) (Or.inr ⟨by rfl, rfl⟩) ?_ ?_ ?_
          rotate_left
          ·simp only [Act.put, ls1, ls2, ls3, i64_w, i32_w]
           rfl
          refine pu_ 23 (some 220) ?_ (bz 26 16777215) rfl rfl (any_of HT_.out (by kernel_rfl)) (fun _ _ _ h => h) (Or.inl ⟨by rfl, ?_⟩) ?_ ?_ ?_; rotate_left; (intro w'; go_simp; with_reducible rfl); rotate_left; (simp only [Act.put, ls1, ls2, ls3, i64_w, i32_w]; rfl)
          refine pu_ 24 (some 221) ?_ (bz 26 33554431) rfl rfl (any_of HT_.out (by kernel_rfl)) (fun _ _ _ h => h) (Or.inl ⟨by rfl, ?_⟩) ?_ ?_ ?_; rotate_left; (intro w'; go_simp; with_reducible rfl); rotate_left; (simp only [Act.put, ls1, ls2, ls3, i64_w, i32_w]; rfl)
          refine pu_ 25 (some 2) ?_ (bz 26 67108863) rfl rfl (any_of HT_.out (by kernel_rfl)) (fun _ _ _ h => h) (Or.inl ⟨by rfl, ?_⟩) ?_ ?_ ?_; rotate_left; (intro w'; go_simp; with_reducible rfl); rotate_left; (simp only [Act.put, ls1, ls2, ls3, i64_w, i32_w]; rfl)
          refine done_ (done_of HT_.out (by kernel_rfl)) ?_
          try go_wp2
          go_ret
          exact ⟨by first | rfl | (simp [errW_none, errW_some] <;> rfl) | (simp [*, errW_none, errW_some] <;> rfl), by repeat (first | (with_reducible first | exact HB.out | apply b1_ | apply b2_ | apply b3_ | refine below_set ?_ GE402.out | refine below_set ?_ GE437.out | refine below_set ?_ GE452.out) | exact HB.out)⟩
         rw [if_neg c165] at H
         have c165b0 : decide (t453 < 0) = false := decide_eq_false c165
         clear c165
         replace H := Option.bind_eq_some_iff.mp H
         obtain ⟨t455, A1750, H⟩ := H
         replace H : ((impl_Reach.f kj135 t446 t447 t448 t451 t455).bind fun t456 => ((impl_Reach.f kj135 t446 t447 t448 t451 99).bind fun t459 => (some ((t456.length : Int) == (t459.length : Int))))) = some r := H
         have A175 := am_ A1750
         clear A1750
         replace H := Option.bind_eq_some_iff.mp H
         obtain ⟨t456, A1760, H⟩ := H
         replace H : ((impl_Reach.f kj135 t446 t447 t448 t451 99).bind fun t459 => (some ((t456.length : Int) == (t459.length : Int)))) = some r := H
         have A176 := am_ A1760
         clear A1760
         replace H := Option.bind_eq_some_iff.mp H
         obtain ⟨t459, A1770, H⟩ := H
         replace H : (some ((t456.length : Int) == (t459.length : Int))) = some r := H
         have A177 := am_ A1770
         clear A1770
         obtain rfl := Option.some.inj H
         try go_wp2_with (first | ((with_reducible refine gate_callee (f := 39) rfl ?_); refine goesL_ (some 191) rfl rfl Try.func39 (by kernel_rfl) rfl #[.slice A0 l0.length c0] rfl (by (try simp only [mt_, mc_, mn_]); first | done | rfl | (simp only [ld_, lt_]; rfl)) ?_; (with_reducible refine (spec_DrawFarthest.calls kj135 _ _ l0 t446 t447 t448 t451 _ ?side1 ?side2 A161.out).mono ?_); (case side1 => repeat (first | exact (Kd.C_below HR0.out HB.out) | (with_reducible first | refine c1_ ?_ _ | refine c2_ ?_ _ | refine c3_ ?_))); (case side2 => exact HC0.out); rintro e w178 ⟨v449, rfl, ho0, hb⟩; refine ⟨_, rfl, ?_⟩; have n0_ := am_ (Kd.Q_elder' (by (with_reducible repeat (first | apply q1_ | apply q2_ | apply q3_)); exact HO_403002.out) (Kd.Q_base ho0) hb); have n1_ := am_ (Kd.Q_elder' (by (with_reducible repeat (first | apply q1_ | apply q2_ | apply q3_)); exact HO_438002.out) (Kd.Q_base ho0) hb); have n2_ := am_ (Kd.Q_lower (Kd.Q_new' (Kd.Q_new' ho0 (Kd.Q_lt (by (with_reducible repeat (first | apply q1_ | apply q2_ | apply q3_)); exact HO_403002.out))) (Kd.Q_lt (by (with_reducible repeat (first | apply q1_ | apply q2_ | apply q3_)); exact HO_438002.out))) (below_size (by repeat (first | (with_reducible first | exact HB.out | apply b1_ | apply b2_ | apply b3_ | refine below_set ?_ GE402.out | refine below_set ?_ GE437.out) | exact HB.out)))); have n3_ := am_ (blk_below (g := gb402) (o := .cells #[.int .i64 t395, .int .i64 t396, .slice Ao11 t397.length co11] 37 (0, 0)) (by (with_reducible repeat (first | refine k1_ ?_ _ | refine k2_ ?_ | refine k3_ ?_ _)); exact BK402.out) hb); have n4_ := am_ (blk_below (g := gb437) (o := .cells #[.int .i64 t430, .int .i64 t431, .slice Ao142 t432.length co142] 37 (0, 0)) (by (with_reducible repeat (first | refine k1_ ?_ _ | refine k2_ ?_ | refine k3_ ?_ _)); exact BK437.out) hb); have n5_ := am_ (below_step (by repeat (first | (with_reducible first | exact HB.out | apply b1_ | apply b2_ | apply b3_ | refine below_set ?_ GE402.out | refine below_set ?_ GE437.out) | exact HB.out)) hb); replace HO_403002 := n0_; replace HO_438002 := n1_; have HO450 := n2_; replace BK402 := n3_; replace BK437 := n4_; replace HB := n5_; clear n0_ n1_ n2_ n3_ n4_ n5_; (try clear hb); (try clear hb2); (try clear hk); (try clear hi); (try clear ho0)) | ((with_reducible refine gate_dst (N := 16) rfl ?_); (try (refine gate_guard (by rfl) ?_; dsimp only)); refine box_event ?hg (N := 16) ?hd (cs := #[.int .i64 0, .int .i64 0, .slice none 0 0]) (t := 37) ?hr ?_; (case hd => rfl); (case hg => rfl); (case hr => first | (go_simp; done) | (go_simp; rfl)); intro gb452 hg w179 hbox hb; have n0_ := am_ (Kd.Q_below (by (with_reducible repeat (first | apply q1_ | apply q2_ | apply q3_)); exact HO_403002.out) hb); have n1_ := am_ (Kd.Q_below (by (with_reducible repeat (first | apply q1_ | apply q2_ | apply q3_)); exact HO_438002.out) hb); have n2_ := am_ (Kd.Q_below (by (with_reducible repeat (first | apply q1_ | apply q2_ | apply q3_)); exact HO450.out) hb); have n3_ := am_ (blk_below (g := gb402) (o := .cells #[.int .i64 t395, .int .i64 t396, .slice Ao11 t397.length co11] 37 (0, 0)) (by (with_reducible repeat (first | refine k1_ ?_ _ | refine k2_ ?_ | refine k3_ ?_ _)); exact BK402.out) hb); have n4_ := am_ (blk_below (g := gb437) (o := .cells #[.int .i64 t430, .int .i64 t431, .slice Ao142 t432.length co142] 37 (0, 0)) (by (with_reducible repeat (first | refine k1_ ?_ _ | refine k2_ ?_ | refine k3_ ?_ _)); exact BK437.out) hb); have n5_ := am_ (below_step (by repeat (first | (with_reducible first | exact HB.out | apply b1_ | apply b2_ | apply b3_ | refine below_set ?_ GE402.out | refine below_set ?_ GE437.out) | exact HB.out)) hb); have n6_ := am_ (hbox); have n7_ := am_ ((by rw [hg]; exact (below_size (by repeat (first | (with_reducible first | exact HB.out | apply b1_ | apply b2_ | apply b3_ | refine below_set ?_ GE402.out | refine below_set ?_ GE437.out) | exact HB.out))) : w.heap.size ≤ gb452)); have n8_ := am_ ((by rw [hg]; exact (below_size (by repeat (first | (with_reducible first | exact HB.out | apply b1_ | apply b2_ | apply b3_ | refine below_set ?_ GE402.out | refine below_set ?_ GE437.out) | exact HB.out))) : w.heap.size ≤ gb452)); have n9_ := am_ ((by rw [hg]; exact Nat.ne_of_lt (blk_lt (g := gb402) (o := .cells #[.int .i64 t395, .int .i64 t396, .slice Ao11 t397.length co11] 37 (0, 0)) (by (with_reducible repeat (first | refine k1_ ?_ _ | refine k2_ ?_ | refine k3_ ?_ _)); exact BK402.out)) : gb402 ≠ gb452)); have n10_ := am_ ((by rw [hg]; exact Nat.ne_of_gt (blk_lt (g := gb402) (o := .cells #[.int .i64 t395, .int .i64 t396, .slice Ao11 t397.length co11] 37 (0, 0)) (by (with_reducible repeat (first | refine k1_ ?_ _ | refine k2_ ?_ | refine k3_ ?_ _)); exact BK402.out)) : gb452 ≠ gb402)); have n11_ := am_ ((by rw [hg]; exact Nat.ne_of_lt (blk_lt (g := gb437) (o := .cells #[.int .i64 t430, .int .i64 t431, .slice Ao142 t432.length co142] 37 (0, 0)) (by (with_reducible repeat (first | refine k1_ ?_ _ | refine k2_ ?_ | refine k3_ ?_ _)); exact BK437.out)) : gb437 ≠ gb452)); have n12_ := am_ ((by rw [hg]; exact Nat.ne_of_gt (blk_lt (g := gb437) (o := .cells #[.int .i64 t430, .int .i64 t431, .slice Ao142 t432.length co142] 37 (0, 0)) (by (with_reducible repeat (first | refine k1_ ?_ _ | refine k2_ ?_ | refine k3_ ?_ _)); exact BK437.out)) : gb452 ≠ gb437)); replace HO_403002 := n0_; replace HO_438002 := n1_; replace HO450 := n2_; replace BK402 := n3_; replace BK437 := n4_; replace HB := n5_; have BK452 := n6_; have GW452 := n7_; have GE452 := n8_; have NB402_452 := n9_; have NB452_402 := n10_; have NB437_452 := n11_; have NB452_437 := n12_; clear n0_ n1_ n2_ n3_ n4_ n5_ n6_ n7_ n8_ n9_ n10_ n11_ n12_; clear hb hbox hg; have hnb180 := NB452_402.out; have hnc180 := NB402_452.out; have hnb181 := NB452_437.out; have hnc181 := NB437_452.out; have hcz182_0 : w179.cell? ⟨gb452, 0, none⟩ = some (.int .i64 0) := (blk_cell BK452.out 0).trans rfl; have hcz182_1 : w179.cell? ⟨gb452, 1, none⟩ = some (.int .i64 0) := (blk_cell BK452.out 1).trans rfl; have hcz182_2 : w179.cell? ⟨gb452, 2, none⟩ = some (.slice none 0 0) := (blk_cell BK452.out 2).trans rfl; have hfz182_0 := blk_frozen BK452.out 0; have hfz182_1 := blk_frozen BK452.out 1; have hfz182_2 := blk_frozen BK452.out 2; obtain ⟨Ao183, co183, eo183, _⟩ := Kd.Q_slice HO450.out; subst eo183) | ((with_reducible refine gate_callee (f := 40) rfl ?_); refine goesL_ (some 196) rfl rfl Try.func40 (by kernel_rfl) rfl #[.agg #[.int .i64 t446, .int .i64 t447, .slice Ao183 t448.length co183], .int .i64 t451] rfl (by (try simp only [mt_, mc_, mn_]); first | done | rfl | (simp only [ld_, lt_]; rfl)) ?_; (with_reducible refine (impl_Farthest.calls kj135 t446 t447 _ _ t448 t451 t453 _ ?side1 ?side2 A162.out).mono ?_); (case side1 => refine (Kd.Q_reads' (e := 3) (base := w.heap.size) (ok := fun k_ => ((True ∧ some k_ ≠ (.slice Ao11 t397.length co11 : Value).ownBlock) ∧ some k_ ≠ (.slice Ao142 t432.length co142 : Value).ownBlock)) (n := t448.length) (c := co183) ?_).2.2; exact (by (with_reducible repeat (first | apply q1_ | apply q2_ | apply q3_)); exact (Kd.Q_mono (Kd.Q_far (p := ⟨gb452, 2, none⟩) (Kd.Q_far (p := ⟨gb452, 1, none⟩) (Kd.Q_far (p := ⟨gb452, 0, none⟩) (Kd.Q_types HO450.out BK452.out (by decide)) (fun _ hk => hk.2) (.int .i64 t446)) (fun _ hk => hk.2) (.int .i64 t447)) (fun _ hk => hk.2) (.slice Ao183 t448.length co183)) (fun _ h_ => h_.1)))); (case side2 => exact (Kd.Q_reads' HO450.out).2.1); rintro e w184 ⟨rfl, hb⟩; refine ⟨_, rfl, ?_⟩; have n0_ := am_ (Kd.Q_below (by (with_reducible repeat (first | apply q1_ | apply q2_ | apply q3_)); exact (Kd.Q_mono (Kd.Q_far (p := ⟨gb452, 2, none⟩) (Kd.Q_far (p := ⟨gb452, 1, none⟩) (Kd.Q_far (p := ⟨gb452, 0, none⟩) (Kd.Q_types HO_403002.out BK452.out (by decide)) (fun _ hk => hk.2) (.int .i64 t446)) (fun _ hk => hk.2) (.int .i64 t447)) (fun _ hk => hk.2) (.slice Ao183 t448.length co183)) (fun _ h_ => h_.1))) hb); have n1_ := am_ (Kd.Q_below (by (with_reducible repeat (first | apply q1_ | apply q2_ | apply q3_)); exact (Kd.Q_mono (Kd.Q_far (p := ⟨gb452, 2, none⟩) (Kd.Q_far (p := ⟨gb452, 1, none⟩) (Kd.Q_far (p := ⟨gb452, 0, none⟩) (Kd.Q_types HO_438002.out BK452.out (by decide)) (fun _ hk => hk.2) (.int .i64 t446)) (fun _ hk => hk.2) (.int .i64 t447)) (fun _ hk => hk.2) (.slice Ao183 t448.length co183)) (fun _ h_ => h_.1))) hb); have n2_ := am_ (Kd.Q_below (by (with_reducible repeat (first | apply q1_ | apply q2_ | apply q3_)); exact (Kd.Q_mono (Kd.Q_far (p := ⟨gb452, 2, none⟩) (Kd.Q_far (p := ⟨gb452, 1, none⟩) (Kd.Q_far (p := ⟨gb452, 0, none⟩) (Kd.Q_types HO450.out BK452.out (by decide)) (fun _ hk => hk.2) (.int .i64 t446)) (fun _ hk => hk.2) (.int .i64 t447)) (fun _ hk => hk.2) (.slice Ao183 t448.length co183)) (fun _ h_ => h_.1))) hb); have n3_ := am_ (blk_below (g := gb402) (o := .cells #[.int .i64 t395, .int .i64 t396, .slice Ao11 t397.length co11] 37 (0, 0)) (by (with_reducible repeat (first | refine k1_ ?_ _ | refine k2_ ?_ | refine k3_ ?_ _)); refine blk_far ?_ NB402_452.out _; (with_reducible repeat (first | refine k1_ ?_ _ | refine k2_ ?_ | refine k3_ ?_ _)); refine blk_far ?_ NB402_452.out _; (with_reducible repeat (first | refine k1_ ?_ _ | refine k2_ ?_ | refine k3_ ?_ _)); refine blk_far ?_ NB402_452.out _; (with_reducible repeat (first | refine k1_ ?_ _ | refine k2_ ?_ | refine k3_ ?_ _)); exact BK402.out) hb); have n4_ := am_ (blk_below (g := gb437) (o := .cells #[.int .i64 t430, .int .i64 t431, .slice Ao142 t432.length co142] 37 (0, 0)) (by (with_reducible repeat (first | refine k1_ ?_ _ | refine k2_ ?_ | refine k3_ ?_ _)); refine blk_far ?_ NB437_452.out _; (with_reducible repeat (first | refine k1_ ?_ _ | refine k2_ ?_ | refine k3_ ?_ _)); refine blk_far ?_ NB437_452.out _; (with_reducible repeat (first | refine k1_ ?_ _ | refine k2_ ?_ | refine k3_ ?_ _)); refine blk_far ?_ NB437_452.out _; (with_reducible repeat (first | refine k1_ ?_ _ | refine k2_ ?_ | refine k3_ ?_ _)); exact BK437.out) hb); have n5_ := am_ (blk_below (g := gb452) (o := .cells #[.int .i64 t446, .int .i64 t447, .slice Ao183 t448.length co183] 37 (0, 0)) (by (with_reducible repeat (first | refine k1_ ?_ _ | refine k2_ ?_ | refine k3_ ?_ _)); refine blk_put (cs := #[.int .i64 t446, .int .i64 t447, .slice none 0 0]) ?_ 2 _ rfl; (with_reducible repeat (first | refine k1_ ?_ _ | refine k2_ ?_ | refine k3_ ?_ _)); refine blk_put (cs := #[.int .i64 t446, .int .i64 0, .slice none 0 0]) ?_ 1 _ rfl; (with_reducible repeat (first | refine k1_ ?_ _ | refine k2_ ?_ | refine k3_ ?_ _)); refine blk_put (cs := #[.int .i64 0, .int .i64 0, .slice none 0 0]) ?_ 0 _ rfl; (with_reducible repeat (first | refine k1_ ?_ _ | refine k2_ ?_ | refine k3_ ?_ _)); exact BK452.out) hb); have n6_ := am_ (below_step (by repeat (first | (with_reducible first | exact HB.out | apply b1_ | apply b2_ | apply b3_ | refine below_set ?_ GE402.out | refine below_set ?_ GE437.out | refine below_set ?_ GE452.out) | exact HB.out)) hb); replace HO_403002 := n0_; replace HO_438002 := n1_; replace HO450 := n2_; replace BK402 := n3_; replace BK437 := n4_; replace BK452 := n5_; replace HB := n6_; clear n0_ n1_ n2_ n3_ n4_ n5_ n6_; (try clear hb); (try clear hb2); (try clear hk); (try clear hi)))
         have n0_ := am_ (q3_ HO_403002.out)
         have n1_ := am_ (q3_ HO_438002.out)
         have n2_ := am_ (q3_ HO450.out)
         have n3_ := am_ (k2_ BK402.out)
         have n4_ := am_ (k2_ BK437.out)
         have n5_ := am_ (k2_ BK452.out)
         have n6_ := am_ (b3_ HB.out)
         replace HO_403002 := n0_
         replace HO_438002 := n1_
         replace HO450 := n2_
         replace BK402 := n3_
         replace BK437 := n4_
         replace BK452 := n5_
         replace HB := n6_
         clear n0_ n1_ n2_ n3_ n4_ n5_ n6_
         refine start_ (n := 26) (S := fun w' => w'.cell? ⟨gb452, 0, none⟩ = some (.int .i64 t446) ∧ w'.cell? ⟨gb452, 1, none⟩ = some (.int .i64 t447) ∧ w'.cell? ⟨gb452, 2, none⟩ = some (.slice Ao183 t448.length co183)) (ds := []) (bz 26 0) (by kernel_rfl) rfl rfl ⟨(blk_cell BK452.out 0).trans rfl, (blk_cell BK452.out 1).trans rfl, (blk_cell BK452.out 2).trans rfl⟩ (fun hHeld => ?_); refine with_tabW laws_FnWays.tab26 laws_FnWays.bits26 (fun HT_ HW_ => ?_)
         generalize w184.drew = w185 at HO_403002 HO_438002 HO450 BK402 BK437 BK452 HB hHeld ⊢
         refine pu_ 0 (some 197) ?_ (bz 26 1) rfl rfl (any_of HT_.out (by kernel_rfl)) (fun _ _ _ h => h) (Or.inl ⟨by rfl, ?_⟩) ?_ ?_ ?_; rotate_left; (intro w'; go_simp; with_reducible rfl); rotate_left; (simp only [Act.put, ls1, ls2, ls3, i64_w, i32_w]; rfl)
         refine pu_ 1 (some 198) ?_ (bz 26 3) rfl rfl (any_of HT_.out (by kernel_rfl)) (fun _ _ _ h => h) (Or.inl ⟨by rfl, ?_⟩) ?_ ?_ ?_; rotate_left; (intro w'; go_simp; with_reducible rfl); rotate_left; (simp only [Act.put, ls1, ls2, ls3, i64_w, i32_w]; rfl)
         refine pu_ 3 (some 200) ?_ (bz 26 11) rfl rfl (any_of HT_.out (by kernel_rfl)) (fun _ _ _ h => h) (Or.inl ⟨by rfl, ?_⟩) ?_ ?_ ?_; rotate_left; (intro w'; go_simp; with_reducible rfl); rotate_left; (simp only [Act.put, ls1, ls2, ls3, i64_w, i32_w]; rfl)
         refine take_ (i := 2) (N := some 199) (v := ?_) (a' := ?_) (bz 26 15) rfl rfl (take_ofW HT_.out HW_.out (by kernel_rfl)) (fun _ _ _ h => h) (Or.inl ⟨by rfl, ?_⟩) hHeld ?_ ?_; rotate_left; (rintro w' ⟨s0, s1, s2⟩; go_simp; with_reducible rfl); rotate_left; (simp only [Act.put, ls1, ls2, ls3, i64_w, i32_w]; rfl)
         refine one_ (i := 4) (N := some 201) (bz 26 31) rfl rfl (one_of HT_.out (by kernel_rfl)) (by decide) (fun K hK => ?_)
         refine goes_ Try.func34 (by kernel_rfl) rfl #[.agg #[.int .i64 t446, .int .i64 t447, .slice Ao183 t448.length co183], .int .i64 t451] (by rfl) rfl rfl (by (try simp only [mt_, mc_, mn_]); first | done | rfl | (simp only [ld_, lt_]; rfl)) ?_
         with_reducible refine (impl_IsOpen.calls kj135 t446 t447 _ _ t448 t451 t454 _ ?side1 ?side2 A163.out).mono ?_
         (case side1 => repeat (first | exact (Kd.Q_reads' HO450.out).2.2 | (with_reducible first | refine c1_ ?_ _ | refine c2_ ?_ _ | refine c3_ ?_)))
         (case side2 => exact (Kd.Q_reads' HO450.out).2.1)
         rintro e w186 ⟨rfl, hb⟩
         refine ⟨_, rfl, ?_⟩
         have n0_ := am_ (Kd.Q_below (by (with_reducible repeat (first | apply q1_ | apply q2_ | apply q3_)); exact HO_403002.out) hb)
         have n1_ := am_ (Kd.Q_below (by (with_reducible repeat (first | apply q1_ | apply q2_ | apply q3_)); exact HO_438002.out) hb)
         have n2_ := am_ (Kd.Q_below (by (with_reducible repeat (first | apply q1_ | apply q2_ | apply q3_)); exact HO450.out) hb)
         have n3_ := am_ (blk_below (g := gb402) (o := .cells #[.int .i64 t395, .int .i64 t396, .slice Ao11 t397.length co11] 37 (0, 0)) (by (with_reducible repeat (first | refine k1_ ?_ _ | refine k2_ ?_ | refine k3_ ?_ _)); exact BK402.out) hb)
         have n4_ := am_ (blk_below (g := gb437) (o := .cells #[.int .i64 t430, .int .i64 t431, .slice Ao142 t432.length co142] 37 (0, 0)) (by (with_reducible repeat (first | refine k1_ ?_ _ | refine k2_ ?_ | refine k3_ ?_ _)); exact BK437.out) hb)
         have n5_ := am_ (blk_below (g := gb452) (o := .cells #[.int .i64 t446, .int .i64 t447, .slice Ao183 t448.length co183] 37 (0, 0)) (by (with_reducible repeat (first | refine k1_ ?_ _ | refine k2_ ?_ | refine k3_ ?_ _)); exact BK452.out) hb)
         have n6_ := am_ (below_step (by repeat (first | (with_reducible first | exact HB.out | apply b1_ | apply b2_ | apply b3_ | refine below_set ?_ GE402.out | refine below_set ?_ GE437.out | refine below_set ?_ GE452.out) | exact HB.out)) hb)
         replace HO_403002 := n0_
         replace HO_438002 := n1_
         replace HO450 := n2_
         replace BK402 := n3_
         replace BK437 := n4_
         replace BK452 := n5_
         replace HB := n6_
         clear n0_ n1_ n2_ n3_ n4_ n5_ n6_
         (try clear hb)
         (try clear hb2)
         (try clear hk)
         (try clear hi)
         refine hK.out _ _ ⟨(blk_cell BK452.out 0).trans rfl, (blk_cell BK452.out 1).trans rfl, (blk_cell BK452.out 2).trans rfl⟩ (fun hHeld => ?_)
         clear hK K
         refine norm_ (a' := ?_) ?_ ?_
         rotate_left
         ·show Act.put _ (some 201) _ = _
          simp only [Act.put, ls1, ls2, ls3, i64_w, i32_w]
          rfl
         refine pu_ 5 (some 202) ?_ (bz 26 63) rfl rfl (any_of HT_.out (by kernel_rfl)) (fun _ _ _ h => h) (Or.inl ⟨by rfl, ?_⟩) ?_ ?_ ?_; rotate_left; (intro w'; go_simp; with_reducible rfl); rotate_left; (simp only [Act.put, ls1, ls2, ls3, i64_w, i32_w]; rfl)
         refine pu_ 6 (some 203) ?_ (bz 26 127) rfl rfl (any_of HT_.out (by kernel_rfl)) (fun _ _ _ h => h) (Or.inl ⟨by rfl, ?_⟩) ?_ ?_ ?_; rotate_left; (intro w'; go_simp; with_reducible rfl); rotate_left; (simp only [Act.put, ls1, ls2, ls3, i64_w, i32_w]; rfl)
         refine pu_ 7 (some 204) ?_ (bz 26 255) rfl rfl (any_of HT_.out (by kernel_rfl)) (fun _ _ _ h => h) (Or.inl ⟨by rfl, ?_⟩) ?_ ?_ ?_; rotate_left; (intro w'; go_simp; with_reducible rfl); rotate_left; (simp only [Act.put, ls1, ls2, ls3, i64_w, i32_w]; rfl)
         refine pu_ 8 (some 205) ?_ (bz 26 511) rfl rfl (any_of HT_.out (by kernel_rfl)) (fun _ _ _ h => h) (Or.inl ⟨by rfl, ?_⟩) ?_ ?_ ?_; rotate_left; (intro w'; go_simp; with_reducible rfl); rotate_left; (simp only [Act.put, ls1, ls2, ls3, i64_w, i32_w]; rfl)
         refine pu_ 9 (some 206) ?_ (bz 26 1023) rfl rfl (any_of HT_.out (by kernel_rfl)) (fun _ _ _ h => h) (Or.inl ⟨by rfl, ?_⟩) ?_ ?_ ?_; rotate_left; (intro w'; go_simp; with_reducible rfl); rotate_left; (simp only [Act.put, ls1, ls2, ls3, i64_w, i32_w]; rfl)
         refine pu_ 11 (some 208) ?_ (bz 26 3071) rfl rfl (any_of HT_.out (by kernel_rfl)) (fun _ _ _ h => h) (Or.inl ⟨by rfl, ?_⟩) ?_ ?_ ?_; rotate_left; (intro w'; go_simp; with_reducible rfl); rotate_left; (simp only [Act.put, ls1, ls2, ls3, i64_w, i32_w]; rfl)
         refine pu_ 13 (some 210) ?_ (bz 26 11263) rfl rfl (any_of HT_.out (by kernel_rfl)) (fun _ _ _ h => h) (Or.inl ⟨by rfl, ?_⟩) ?_ ?_ ?_; rotate_left; (intro w'; go_simp; with_reducible rfl); rotate_left; (simp only [Act.put, ls1, ls2, ls3, i64_w, i32_w]; rfl)
         refine pu_ 14 (some 211) ?_ (bz 26 27647) rfl rfl (any_of HT_.out (by kernel_rfl)) (fun _ _ _ h => h) (Or.inl ⟨by rfl, ?_⟩) ?_ ?_ ?_; rotate_left; (intro w'; go_simp; with_reducible rfl); rotate_left; (simp only [Act.put, ls1, ls2, ls3, i64_w, i32_w]; rfl)
         refine pu_ 19 (some 216) ?_ (bz 26 551935) rfl rfl (any_of HT_.out (by kernel_rfl)) (fun _ _ _ h => h) (Or.inl ⟨by rfl, ?_⟩) ?_ ?_ ?_; rotate_left; (intro w'; go_simp; with_reducible rfl); rotate_left; (simp only [Act.put, ls1, ls2, ls3, i64_w, i32_w]; rfl)
         refine take_ (i := 10) (N := some 207) (v := ?_) (a' := ?_) (bz 26 552959) rfl rfl (take_ofW HT_.out HW_.out (by kernel_rfl)) (fun _ _ _ h => h) (Or.inl ⟨by rfl, ?_⟩) hHeld ?_ ?_; rotate_left; (rintro w' ⟨s0, s1, s2⟩; go_simp; with_reducible rfl); rotate_left; (simp only [Act.put, ls1, ls2, ls3, i64_w, i32_w]; rfl)
         refine take_ (i := 12) (N := some 209) (v := ?_) (a' := ?_) (bz 26 557055) rfl rfl (take_ofW HT_.out HW_.out (by kernel_rfl)) (fun _ _ _ h => h) (Or.inl ⟨by rfl, ?_⟩) hHeld ?_ ?_; rotate_left; (rintro w' ⟨s0, s1, s2⟩; go_simp; with_reducible rfl); rotate_left; (simp only [Act.put, ls1, ls2, ls3, i64_w, i32_w]; rfl)
         refine take_ (i := 18) (N := some 215) (v := ?_) (a' := ?_) (bz 26 819199) rfl rfl (take_ofW HT_.out HW_.out (by kernel_rfl)) (fun _ _ _ h => h) (Or.inl ⟨by rfl, ?_⟩) hHeld ?_ ?_; rotate_left; (rintro w' ⟨s0, s1, s2⟩; go_simp; with_reducible rfl); rotate_left; (simp only [Act.put, ls1, ls2, ls3, i64_w, i32_w]; rfl)
         refine one_ (i := 15) (N := some 212) (bz 26 851967) rfl rfl (one_of HT_.out (by kernel_rfl)) (by decide) (fun K hK => ?_)
         refine goes_ Try.func28 (by kernel_rfl) rfl #[.agg #[.int .i64 t446, .int .i64 t447, .slice Ao183 t448.length co183], .int .i64 t451, .int .i64 t453] (by rfl) rfl rfl (by (try simp only [mt_, mc_, mn_]); first | done | rfl | (simp only [ld_, lt_]; rfl)) ?_
         with_reducible refine (impl_Days.calls kj135 t446 t447 _ _ t448 t451 t453 t455 _ ?side1 ?side2 A175.out).mono ?_
         (case side1 => repeat (first | exact (Kd.Q_reads' HO450.out).2.2 | (with_reducible first | refine c1_ ?_ _ | refine c2_ ?_ _ | refine c3_ ?_)))
         (case side2 => exact (Kd.Q_reads' HO450.out).2.1)
         rintro e w187 ⟨rfl, hb⟩
         refine ⟨_, rfl, ?_⟩
         have n0_ := am_ (Kd.Q_below (by (with_reducible repeat (first | apply q1_ | apply q2_ | apply q3_)); exact HO_403002.out) hb)
         have n1_ := am_ (Kd.Q_below (by (with_reducible repeat (first | apply q1_ | apply q2_ | apply q3_)); exact HO_438002.out) hb)
         have n2_ := am_ (Kd.Q_below (by (with_reducible repeat (first | apply q1_ | apply q2_ | apply q3_)); exact HO450.out) hb)
         have n3_ := am_ (blk_below (g := gb402) (o := .cells #[.int .i64 t395, .int .i64 t396, .slice Ao11 t397.length co11] 37 (0, 0)) (by (with_reducible repeat (first | refine k1_ ?_ _ | refine k2_ ?_ | refine k3_ ?_ _)); exact BK402.out) hb)
         have n4_ := am_ (blk_below (g := gb437) (o := .cells #[.int .i64 t430, .int .i64 t431, .slice Ao142 t432.length co142] 37 (0, 0)) (by (with_reducible repeat (first | refine k1_ ?_ _ | refine k2_ ?_ | refine k3_ ?_ _)); exact BK437.out) hb)
         have n5_ := am_ (blk_below (g := gb452) (o := .cells #[.int .i64 t446, .int .i64 t447, .slice Ao183 t448.length co183] 37 (0, 0)) (by (with_reducible repeat (first | refine k1_ ?_ _ | refine k2_ ?_ | refine k3_ ?_ _)); exact BK452.out) hb)
         have n6_ := am_ (below_step (by repeat (first | (with_reducible first | exact HB.out | apply b1_ | apply b2_ | apply b3_ | refine below_set ?_ GE402.out | refine below_set ?_ GE437.out | refine below_set ?_ GE452.out) | exact HB.out)) hb)
         replace HO_403002 := n0_
         replace HO_438002 := n1_
         replace HO450 := n2_
         replace BK402 := n3_
         replace BK437 := n4_
         replace BK452 := n5_
         replace HB := n6_
         clear n0_ n1_ n2_ n3_ n4_ n5_ n6_
         (try clear hb)
         (try clear hb2)
         (try clear hk)
         (try clear hi)
         refine hK.out _ _ ⟨(blk_cell BK452.out 0).trans rfl, (blk_cell BK452.out 1).trans rfl, (blk_cell BK452.out 2).trans rfl⟩ (fun hHeld => ?_)
         clear hK K
         refine norm_ (a' := ?_) ?_ ?_
         rotate_left
         ·show Act.put _ (some 212) _ = _
          simp only [Act.put, ls1, ls2, ls3, i64_w, i32_w]
          rfl
         refine one_ (i := 16) (N := some 213) (bz 26 917503) rfl rfl (one_of HT_.out (by kernel_rfl)) (by decide) (fun K hK => ?_)
         refine goes_ Try.func36 (by kernel_rfl) rfl #[.agg #[.int .i64 t446, .int .i64 t447, .slice Ao183 t448.length co183], .int .i64 t451, .int .i64 t455] (by rfl) rfl rfl (by (try simp only [mt_, mc_, mn_]); first | done | rfl | (simp only [ld_, lt_]; rfl)) ?_
         with_reducible refine (impl_Reach.calls kj135 t446 t447 _ _ t448 t451 t455 t456 _ ?side1 ?side2 A176.out).mono ?_
         (case side1 => repeat (first | exact (Kd.Q_reads' HO450.out).2.2 | (with_reducible first | refine c1_ ?_ _ | refine c2_ ?_ _ | refine c3_ ?_)))
         (case side2 => exact (Kd.Q_reads' HO450.out).2.1)
         rintro e w188 ⟨v457, rfl, ho0, hb⟩
         refine ⟨_, rfl, ?_⟩
         have n0_ := am_ (Kd.Q_elder' (by (with_reducible repeat (first | apply q1_ | apply q2_ | apply q3_)); exact HO_403002.out) (Kd.R_base ho0) hb)
         have n1_ := am_ (Kd.Q_elder' (by (with_reducible repeat (first | apply q1_ | apply q2_ | apply q3_)); exact HO_438002.out) (Kd.R_base ho0) hb)
         have n2_ := am_ (Kd.Q_elder' (by (with_reducible repeat (first | apply q1_ | apply q2_ | apply q3_)); exact HO450.out) (Kd.R_base ho0) hb)
         have n3_ := am_ (Kd.R_lower (Kd.R_new' (Kd.R_new' (Kd.R_new' ho0 (Kd.Q_lt (by (with_reducible repeat (first | apply q1_ | apply q2_ | apply q3_)); exact HO_403002.out))) (Kd.Q_lt (by (with_reducible repeat (first | apply q1_ | apply q2_ | apply q3_)); exact HO_438002.out))) (Kd.Q_lt (by (with_reducible repeat (first | apply q1_ | apply q2_ | apply q3_)); exact HO450.out))) (below_size (by repeat (first | (with_reducible first | exact HB.out | apply b1_ | apply b2_ | apply b3_ | refine below_set ?_ GE402.out | refine below_set ?_ GE437.out | refine below_set ?_ GE452.out) | exact HB.out))))
         have n4_ := am_ (blk_below (g := gb402) (o := .cells #[.int .i64 t395, .int .i64 t396, .slice Ao11 t397.length co11] 37 (0, 0)) (by (with_reducible repeat (first | refine k1_ ?_ _ | refine k2_ ?_ | refine k3_ ?_ _)); exact BK402.out) hb)
         have n5_ := am_ (blk_below (g := gb437) (o := .cells #[.int .i64 t430, .int .i64 t431, .slice Ao142 t432.length co142] 37 (0, 0)) (by (with_reducible repeat (first | refine k1_ ?_ _ | refine k2_ ?_ | refine k3_ ?_ _)); exact BK437.out) hb)
         have n6_ := am_ (blk_below (g := gb452) (o := .cells #[.int .i64 t446, .int .i64 t447, .slice Ao183 t448.length co183] 37 (0, 0)) (by (with_reducible repeat (first | refine k1_ ?_ _ | refine k2_ ?_ | refine k3_ ?_ _)); exact BK452.out) hb)
         have n7_ := am_ (below_step (by repeat (first | (with_reducible first | exact HB.out | apply b1_ | apply b2_ | apply b3_ | refine below_set ?_ GE402.out | refine below_set ?_ GE437.out | refine below_set ?_ GE452.out) | exact HB.out)) hb)
         replace HO_403002 := n0_
         replace HO_438002 := n1_
         replace HO450 := n2_
         have HO458 := n3_
         replace BK402 := n4_
         replace BK437 := n5_
         replace BK452 := n6_
         replace HB := n7_
         clear n0_ n1_ n2_ n3_ n4_ n5_ n6_ n7_
         (try clear hb)
         (try clear hb2)
         (try clear hk)
         (try clear hi)
         (try clear ho0)
         obtain ⟨Ao189, co189, eo189⟩ := Kd.R_slice HO458.out
         (first | subst eo189 | (injection eo189 with f1_ f2_ f3_; have f4_ := f1_.symm; have f5_ := f3_.symm; clear f1_ f2_ f3_; subst f4_; subst f5_))
         refine hK.out _ _ ⟨(blk_cell BK452.out 0).trans rfl, (blk_cell BK452.out 1).trans rfl, (blk_cell BK452.out 2).trans rfl⟩ (fun hHeld => ?_)
         clear hK K
         refine norm_ (a' := ?_) ?_ ?_
         rotate_left
         ·show Act.put _ (some 213) _ = _
          simp only [Act.put, ls1, ls2, ls3, i64_w, i32_w]
          rfl
         refine pu_ 17 (some 214) ?_ (bz 26 1048575) rfl rfl (any_of HT_.out (by kernel_rfl)) (fun _ _ _ h => h) (Or.inl ⟨by rfl, ?_⟩) ?_ ?_ ?_; rotate_left; (intro w'; go_simp; with_reducible rfl); rotate_left; (simp only [Act.put, ls1, ls2, ls3, i64_w, i32_w]; rfl)
         refine one_ (i := 20) (N := some 217) (bz 26 2097151) rfl rfl (one_of HT_.out (by kernel_rfl)) (by decide) (fun K hK => ?_)
         refine goes_ Try.func36 (by kernel_rfl) rfl #[.agg #[.int .i64 t446, .int .i64 t447, .slice Ao183 t448.length co183], .int .i64 t451, .int .i64 99] (by rfl) rfl rfl (by (try simp only [mt_, mc_, mn_]); first | done | rfl | (simp only [ld_, lt_]; rfl)) ?_
         with_reducible refine (impl_Reach.calls kj135 t446 t447 _ _ t448 t451 99 t459 _ ?side1 ?side2 A177.out).mono ?_
         (case side1 => repeat (first | exact (Kd.Q_reads' HO450.out).2.2 | (with_reducible first | refine c1_ ?_ _ | refine c2_ ?_ _ | refine c3_ ?_)))
         (case side2 => exact (Kd.Q_reads' HO450.out).2.1)
         rintro e w190 ⟨v460, rfl, ho0, hb⟩
         refine ⟨_, rfl, ?_⟩
         have n0_ := am_ (Kd.Q_elder' (by (with_reducible repeat (first | apply q1_ | apply q2_ | apply q3_)); exact HO_403002.out) (Kd.R_base ho0) hb)
         have n1_ := am_ (Kd.Q_elder' (by (with_reducible repeat (first | apply q1_ | apply q2_ | apply q3_)); exact HO_438002.out) (Kd.R_base ho0) hb)
         have n2_ := am_ (Kd.Q_elder' (by (with_reducible repeat (first | apply q1_ | apply q2_ | apply q3_)); exact HO450.out) (Kd.R_base ho0) hb)
         have n3_ := am_ (Kd.R_elder' (by (with_reducible repeat (first | apply r1_ | apply r2_ | apply r3_)); exact HO458.out) (Kd.R_base ho0) hb)
         have n4_ := am_ (Kd.R_lower (Kd.R_new' (Kd.R_new' (Kd.R_new' (Kd.R_new' ho0 (Kd.Q_lt (by (with_reducible repeat (first | apply q1_ | apply q2_ | apply q3_)); exact HO_403002.out))) (Kd.Q_lt (by (with_reducible repeat (first | apply q1_ | apply q2_ | apply q3_)); exact HO_438002.out))) (Kd.Q_lt (by (with_reducible repeat (first | apply q1_ | apply q2_ | apply q3_)); exact HO450.out))) (Kd.R_lt (by (with_reducible repeat (first | apply r1_ | apply r2_ | apply r3_)); exact HO458.out))) (below_size (by repeat (first | (with_reducible first | exact HB.out | apply b1_ | apply b2_ | apply b3_ | refine below_set ?_ GE402.out | refine below_set ?_ GE437.out | refine below_set ?_ GE452.out) | exact HB.out))))
         have n5_ := am_ (blk_below (g := gb402) (o := .cells #[.int .i64 t395, .int .i64 t396, .slice Ao11 t397.length co11] 37 (0, 0)) (by (with_reducible repeat (first | refine k1_ ?_ _ | refine k2_ ?_ | refine k3_ ?_ _)); exact BK402.out) hb)
         have n6_ := am_ (blk_below (g := gb437) (o := .cells #[.int .i64 t430, .int .i64 t431, .slice Ao142 t432.length co142] 37 (0, 0)) (by (with_reducible repeat (first | refine k1_ ?_ _ | refine k2_ ?_ | refine k3_ ?_ _)); exact BK437.out) hb)
         have n7_ := am_ (blk_below (g := gb452) (o := .cells #[.int .i64 t446, .int .i64 t447, .slice Ao183 t448.length co183] 37 (0, 0)) (by (with_reducible repeat (first | refine k1_ ?_ _ | refine k2_ ?_ | refine k3_ ?_ _)); exact BK452.out) hb)
         have n8_ := am_ (below_step (by repeat (first | (with_reducible first | exact HB.out | apply b1_ | apply b2_ | apply b3_ | refine below_set ?_ GE402.out | refine below_set ?_ GE437.out | refine below_set ?_ GE452.out) | exact HB.out)) hb)
         replace HO_403002 := n0_
         replace HO_438002 := n1_
         replace HO450 := n2_
         replace HO458 := n3_
         have HO461 := n4_
         replace BK402 := n5_
         replace BK437 := n6_
         replace BK452 := n7_
         replace HB := n8_
         clear n0_ n1_ n2_ n3_ n4_ n5_ n6_ n7_ n8_
         (try clear hb)
         (try clear hb2)
         (try clear hk)
         (try clear hi)
         (try clear ho0)
         obtain ⟨Ao191, co191, eo191⟩ := Kd.R_slice HO461.out
         (first | subst eo191 | (injection eo191 with f1_ f2_ f3_; have f4_ := f1_.symm; have f5_ := f3_.symm; clear f1_ f2_ f3_; subst f4_; subst f5_))
         refine hK.out _ _ ⟨(blk_cell BK452.out 0).trans rfl, (blk_cell BK452.out 1).trans rfl, (blk_cell BK452.out 2).trans rfl⟩ (fun hHeld => ?_)
         clear hK K
         refine norm_ (a' := ?_) ?_ ?_
         rotate_left
         ·show Act.put _ (some 217) _ = _
          simp only [Act.put, ls1, ls2, ls3, i64_w, i32_w]
          rfl
         refine pu_ 21 (some 218) ?_ (bz 26 4194303) rfl rfl (any_of HT_.out (by kernel_rfl)) (fun _ _ _ h => h) (Or.inl ⟨by rfl, ?_⟩) ?_ ?_ ?_; rotate_left; (intro w'; go_simp; with_reducible rfl); rotate_left; (simp only [Act.put, ls1, ls2, ls3, i64_w, i32_w]; rfl)
         refine pu_ 22 (some 219) ?_ (bz 26 8388607) rfl rfl (any_of HT_.out (by kernel_rfl)) (fun _ _ _ h => h) (Or.inl ⟨by rfl, ?_⟩) ?_ ?_ ?_; rotate_left; (intro w'; go_simp; with_reducible rfl); rotate_left; (simp only [Act.put, ls1, ls2, ls3, i64_w, i32_w]; rfl)
         refine pu_ 23 (some 220) ?_ (bz 26 16777215) rfl rfl (any_of HT_.out (by kernel_rfl)) (fun _ _ _ h => h) (Or.inl ⟨by rfl, ?_⟩) ?_ ?_ ?_; rotate_left; (intro w'; go_simp; with_reducible rfl); rotate_left; (simp only [Act.put, ls1, ls2, ls3, i64_w, i32_w]; rfl)
         refine pu_ 24 (some 221) ?_ (bz 26 33554431) rfl rfl (any_of HT_.out (by kernel_rfl)) (fun _ _ _ h => h) (Or.inl ⟨by rfl, ?_⟩) ?_ ?_ ?_; rotate_left; (intro w'; go_simp; with_reducible rfl); rotate_left; (simp only [Act.put, ls1, ls2, ls3, i64_w, i32_w]; rfl)
         refine pu_ 25 (some 2) ?_ (bz 26 67108863) rfl rfl (any_of HT_.out (by kernel_rfl)) (fun _ _ _ h => h) (Or.inl ⟨by rfl, ?_⟩) ?_ ?_ ?_; rotate_left; (intro w'; go_simp; with_reducible rfl); rotate_left; (simp only [Act.put, ls1, ls2, ls3, i64_w, i32_w]; rfl)
         refine done_ (done_of HT_.out (by kernel_rfl)) ?_
         try go_wp2
         go_ret
         exact ⟨by first | rfl | (simp [errW_none, errW_some] <;> rfl) | (simp [*, errW_none, errW_some] <;> rfl), by repeat (first | (with_reducible first | exact HB.out | apply b1_ | apply b2_ | apply b3_ | refine below_set ?_ GE402.out | refine below_set ?_ GE437.out | refine below_set ?_ GE452.out) | exact HB.out)⟩

/-- THE ONE PURE STATEMENT of laws_FnWays: yours. -/
def laws_FnWays.Pure : Prop := ∀ (l0 : List Int), l0.length ≤ maxLen → l0.length * 1 ≤ 140737488351232 → (∀ x ∈ l0, (Lit.int .u8 x).wf = true) → ∃ k, laws_FnWays.f k l0 = some true
theorem laws_FnWays.walk (P : laws_FnWays.Pure) (a0 : Option Addr) (len0 cap0 : Nat) (z0 : List Int) (w : World) (w0 : (a0 = none ∧ len0 = 0 ∧ cap0 = 0 ∧ z0 = []) ∨ ∃ x, a0 = some x ∧ len0 ≤ cap0 ∧ cap0 ≤ maxLen ∧ z0.length = cap0 ∧ (∀ i, i < z0.length → w.cell? (x.add i) = some (.int .u8 (z0.getD i 0))) ∧ ∀ n ∈ z0, (Lit.int .u8 n).wf = true) (y0 : len0 * 1 ≤ 140737488351232) :
  Calls Try.prog 9 #[.slice a0 len0 cap0] w fun e w' => e = .returned (.bool true) ∧ Below w.heap.size w w' := by
 obtain ⟨l0, rfl, hr0, hm0, hw0, hc0⟩ := ReadsInt.ofRowC w0
 obtain ⟨k, h⟩ := P l0 hm0 y0 hw0
 refine (laws_FnWays.calls k _ _ l0 true w (Kd.C_of_reads (d := (0 : Int)) (h1 := fun _ => rfl) hr0) hc0 h).mono ?_
 rintro e w' ⟨rfl, hd⟩
 exact ⟨rfl, hd⟩

end Go.Proofs.Ytncenfihphdipaa.QFnWays
