/- FnExactCalmDays answers true, for each list of bools. -/
import Derived.Test.YtncenfihphdipaaPFnExactCalmDaysx1
set_option linter.unusedVariables false
set_option linter.unusedSimpArgs false
namespace Go.Proofs.Ytncenfihphdipaa.Pure
open Go.RowKit Go.Proofs.Ytncenfihphdipaa.PFnExactCalmDays Go.Proofs.YtncenfihphdipaaW.PrintWords Go.Proofs.YtncenfihphdipaaW.PrintLast Go.Proofs.YtncenfihphdipaaW.PrintMore

theorem wrapS {x : Int} (h1 : -9223372036854775808 ≤ x) (h2 : x ≤ 9223372036854775807) : wrap64 x = x := by
  unfold wrap64
  omega
theorem i64wf {x : Int} (h : (Lit.int .i64 x).wf = true) : -9223372036854775808 ≤ x ∧ x ≤ 9223372036854775807 := by
  have h1 : (decide (IntKind.i64.min ≤ x) && decide (x ≤ IntKind.i64.max)) = true := h
  rw [Bool.and_eq_true, decide_eq_true_eq, decide_eq_true_eq] at h1
  exact h1
theorem u8wf {x : Int} (h : (Lit.int .u8 x).wf = true) : 0 ≤ x ∧ x ≤ 255 := by
  have h1 : (decide (IntKind.u8.min ≤ x) && decide (x ≤ IntKind.u8.max)) = true := h
  rw [Bool.and_eq_true, decide_eq_true_eq, decide_eq_true_eq] at h1
  exact h1
/-- What is told of some number of rounds is told of any three together. -/
theorem evNow {α : Type} {g : Option α} {r : α} (h : g = some r) : Ev (fun _ => g) r := ⟨0, fun _ _ => h⟩
theorem one_add_neg (n : Nat) : ((1 : Int) + (n : Int) < 0) = False := by
  simp only [eq_iff_iff, iff_false]
  omega

theorem set_take_succ {α : Type} (d : α) (o l : List α) (n : Nat) (ho : o.length = l.length) (hn : n < l.length) (ht : o.take n = l.take n) : (o.set n (l.getD n d)).take (n + 1) = l.take (n + 1) := by
  apply List.ext_getElem?
  intro j
  have hj := congrArg (fun t => t[j]?) ht
  simp only [List.getElem?_take] at hj ⊢
  by_cases h1 : j < n
  · rw [if_pos h1, if_pos h1] at hj
    rw [if_pos (by omega), if_pos (by omega), List.getElem?_set_ne (by omega)]
    exact hj
  · by_cases h2 : j = n
    · subst h2
      rw [if_pos (by omega), if_pos (by omega), List.getElem?_set_self (by omega), List.getElem?_eq_getElem hn, List.getD_eq_getElem?_getD, List.getElem?_eq_getElem hn]
      rfl
    · rw [if_neg (by omega), if_neg (by omega)]
theorem take_all {α : Type} {o l : List α} (n : Nat) (ho : o.length = l.length) (hn : l.length ≤ n) (ht : o.take n = l.take n) : o = l := by
  rw [List.take_of_length_le (by omega), List.take_of_length_le (by omega)] at ht
  exact ht

def cnt (l : List Bool) : Nat := (l.filter id).length
theorem cnt_le (l : List Bool) : cnt l ≤ l.length := List.length_filter_le _ _
theorem cnt_append (a b : List Bool) : cnt (a ++ b) = cnt a + cnt b := by simp [cnt]
theorem cnt_snoc (l : List Bool) (b : Bool) : cnt (l ++ [b]) = cnt l + if b then 1 else 0 := by
  rw [cnt_append]
  cases b <;> simp [cnt]
theorem take_snoc_rd (l : List Bool) (i : Int) (h0 : 0 ≤ i) (h1 : i < l.length) : l.take (i + 1).toNat = l.take i.toNat ++ [rdOf false l i] := by
  rw [show (i + 1).toNat = i.toNat + 1 from by omega, List.take_succ_eq_append_getElem (by omega)]
  congr 1
  simp [rdOf, List.getD_eq_getElem?_getD, List.getElem?_eq_getElem (show i.toNat < l.length by omega)]

/-- The calm days at the end, of the reversed past. -/
def calmR : List Bool → Nat
  | [] => 0
  | b :: l => if b then 0 else calmR l + 1
def calm (l : List Bool) : Nat := calmR l.reverse
theorem calmR_le (l : List Bool) : calmR l ≤ l.length := by
  induction l with
  | nil => simp [calmR]
  | cons b l ih => unfold calmR; split <;> simp <;> omega
theorem rev_rd (l : List Bool) (j : Nat) (h : j < l.length) : l.reverse.drop j = rdOf false l ((l.length : Int) - 1 - j) :: l.reverse.drop (j + 1) := by
  rw [List.drop_eq_getElem_cons (by simpa using h)]
  congr 1
  rw [List.getElem_reverse]
  simp only [rdOf, List.getD_eq_getElem?_getD]
  rw [show ((l.length : Int) - 1 - (j : Int)).toNat = l.length - 1 - j from by omega, List.getElem?_eq_getElem (by omega)]
  rfl

theorem impl_CalmDays_ev (l : List Bool) (hl : l.length ≤ 17592186044416) : Ev (fun k => impl_CalmDays.f k l) (calm l : Int) := by
  have key : ∀ (d j : Nat), j + d = l.length → Ev (fun k => impl_CalmDays.l0 k l (j : Int) ((l.length : Int) - 1 - j)) ((j : Int) + calmR (l.reverse.drop j)) := by
    intro d
    induction d with
    | zero =>
      intro j hj
      rw [List.drop_eq_nil_of_le (by simp; omega)]
      refine Ev.step (f := fun _ => some ((j : Int) + calmR [])) (fun k => ?_) (Ev.now _)
      simp only [impl_CalmDays.l0]
      rw [if_neg (by omega)]
      simp [calmR]
    | succ d ih =>
      intro j hj
      have hi := ih (j + 1) (by omega)
      rw [rev_rd l j (by omega)]
      cases hb : rdOf false l ((l.length : Int) - 1 - j) with
      | true =>
        refine Ev.step (f := fun _ => some (j : Int)) (fun k => ?_) ?_
        · simp only [impl_CalmDays.l0, hb, if_true]
          rw [if_pos (by omega), if_pos (by omega), if_pos (by omega)]
        · simpa [calmR] using Ev.now (j : Int)
      | false =>
        have e2 : (j : Int) + calmR (false :: l.reverse.drop (j + 1)) = ((j + 1 : Nat) : Int) + calmR (l.reverse.drop (j + 1)) := by
          simp [calmR]
          omega
        rw [e2]
        refine Ev.step (f := fun k => impl_CalmDays.l0 k l ((j + 1 : Nat) : Int) ((l.length : Int) - 1 - ((j + 1 : Nat) : Int))) (fun k => ?_) hi
        simp only [impl_CalmDays.l0, hb, Bool.false_eq_true, if_false]
        rw [if_pos (by omega), if_pos (by omega), if_pos (by omega), wrapS (x := (j : Int) + 1) (by omega) (by omega), wrapS (by omega) (by omega), show (l.length : Int) - 1 - (j : Int) - 1 = (l.length : Int) - 1 - ((j + 1 : Nat) : Int) from by omega]
        rfl
  have h := key l.length 0 (by omega)
  unfold impl_CalmDays.f
  rw [wrapS (x := (l.length : Int) - 1) (by omega) (by omega)]
  simpa [calm] using h

theorem spec_CalmDays_ev (l : List Bool) (hl : l.length ≤ 17592186044416) : Ev (fun k => spec_CalmDays.f k l) (calm l : Int) := by
  have key : ∀ (d j : Nat), j + d = l.length → Ev (fun k => spec_CalmDays.l0 k l (j : Int)) ((j : Int) + calmR (l.reverse.drop j)) := by
    intro d
    induction d with
    | zero =>
      intro j hj
      rw [List.drop_eq_nil_of_le (by simp; omega)]
      refine Ev.step (f := fun _ => some ((j : Int) + calmR [])) (fun k => ?_) (Ev.now _)
      simp only [spec_CalmDays.l0]
      rw [if_neg (by omega)]
      simp [calmR]
    | succ d ih =>
      intro j hj
      have hi := ih (j + 1) (by omega)
      have e : wrap64 (wrap64 ((l.length : Int) - 1) - (j : Int)) = (l.length : Int) - 1 - j := by
        rw [wrapS (x := (l.length : Int) - 1) (by omega) (by omega), wrapS (by omega) (by omega)]
      rw [rev_rd l j (by omega)]
      cases hb : rdOf false l ((l.length : Int) - 1 - j) with
      | true =>
        refine Ev.step (f := fun _ => some (j : Int)) (fun k => ?_) ?_
        · simp only [spec_CalmDays.l0, e, hb, if_true]
          rw [if_pos (by omega), if_pos (by omega), if_pos (by omega)]
        · simpa [calmR] using Ev.now (j : Int)
      | false =>
        have e2 : (j : Int) + calmR (false :: l.reverse.drop (j + 1)) = ((j + 1 : Nat) : Int) + calmR (l.reverse.drop (j + 1)) := by
          simp [calmR]
          omega
        rw [e2]
        refine Ev.step (f := fun k => spec_CalmDays.l0 k l ((j + 1 : Nat) : Int)) (fun k => ?_) hi
        simp only [spec_CalmDays.l0, e, hb, Bool.false_eq_true, if_false]
        rw [if_pos (by omega), if_pos (by omega), if_pos (by omega), wrapS (by omega) (by omega)]
        rfl
  have h := key l.length 0 (by omega)
  unfold spec_CalmDays.f
  simpa [calm] using h

theorem laws_toBoolS_ev (l : List Bool) (hl : l.length ≤ 17592186044416) : Ev (fun k => laws_toBoolS.f k l) l := by
  have key : ∀ (d : Nat) (o : List Bool) (i : Int), 0 ≤ i → o.length = l.length → i + d = l.length → o.take i.toNat = l.take i.toNat → Ev (fun k => laws_toBoolS.l0 k l o i) l := by
    intro d
    induction d with
    | zero =>
      intro o i h0 ho hi ht
      refine Ev.step (f := fun _ => some l) (fun k => ?_) (Ev.now _)
      simp only [laws_toBoolS.l0]
      rw [if_neg (by omega), take_all i.toNat ho (by omega) ht]
    | succ d ih =>
      intro o i h0 ho hi ht
      refine Ev.step (f := fun k => laws_toBoolS.l0 k l (o.set i.toNat (rdOf false l i)) (i + 1)) (fun k => ?_) (ih _ _ (by omega) (by simpa using ho) (by omega) ?_)
      · simp only [laws_toBoolS.l0]
        rw [if_pos (by omega), if_pos h0, if_pos (by omega), wrapS (by omega) (by omega)]
      · rw [show (i + 1).toNat = i.toNat + 1 from by omega]
        exact set_take_succ _ o l i.toNat ho (by omega) ht
  refine Ev.congr (f := fun k => laws_toBoolS.l0 k l (List.replicate l.length false) 0) (fun k => ?_) (key l.length _ 0 (by omega) (by simp) (by omega) (by simp))
  unfold laws_toBoolS.f
  rw [if_pos (by omega), if_pos (by omega)]
  rfl

theorem laws_eqBoolS_ev (l : List Bool) (hl : l.length ≤ 281474976710656) : Ev (fun k => laws_eqBoolS.f k l l) true := by
  have key : ∀ (d : Nat) (i : Int), 0 ≤ i → i + d = l.length → Ev (fun k => laws_eqBoolS.l0 k l l i) true := by
    intro d
    induction d with
    | zero =>
      intro i h0 hi
      refine Ev.step (f := fun _ => some true) (fun k => ?_) (Ev.now _)
      simp only [laws_eqBoolS.l0]
      rw [if_neg (by omega)]
    | succ d ih =>
      intro i h0 hi
      refine Ev.step (f := fun k => laws_eqBoolS.l0 k l l (i + 1)) (fun k => ?_) (ih _ (by omega) (by omega))
      simp only [laws_eqBoolS.l0]
      rw [if_pos (by omega), if_pos h0, if_pos (by omega), wrapS (by omega) (by omega)]
      simp
  refine Ev.congr (f := fun k => laws_eqBoolS.l0 k l l 0) (fun k => ?_) (key l.length 0 (by omega) (by omega))
  unfold laws_eqBoolS.f
  rw [if_pos rfl]



theorem FnExactCalmDays (l : List Bool) : ∃ k, laws_FnExactCalmDays.f k l = some true := by
  apply Ev.rounds
  unfold laws_FnExactCalmDays.f
  by_cases h1 : (l.length : Int) > 1048576
  · simp only [if_pos h1]; exact Ev.now _
  simp only [if_neg h1]
  refine Ev.bind (laws_toBoolS_ev l (by omega)) ?_
  refine Ev.bind (spec_CalmDays_ev l (by omega)) ?_
  refine Ev.bind (laws_toBoolS_ev l (by omega)) ?_
  refine Ev.bind (impl_CalmDays_ev l (by omega)) ?_
  simp only [if_true, if_false, Bool.false_eq_true, Bool.not_true, Bool.not_false, bne_self_eq_false, eq_self, ite_true, ite_false, reduceIte]
  refine Ev.bind (laws_toBoolS_ev l (by omega)) ?_
  refine Ev.bind (laws_eqBoolS_ev l (by omega)) ?_
  simp only [if_true, if_false, Bool.false_eq_true, Bool.not_true, Bool.not_false, bne_self_eq_false, eq_self, ite_true, ite_false, reduceIte]
  exact Ev.now _

end Go.Proofs.Ytncenfihphdipaa.Pure
