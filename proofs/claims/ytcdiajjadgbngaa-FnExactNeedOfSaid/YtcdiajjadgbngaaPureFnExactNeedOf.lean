/- FnExactNeedOf answers true, for each list of members. -/
import Derived.Test.YtcdiajjadgbngaaPFnExactNeedOfx5
set_option linter.unusedVariables false
set_option linter.unusedSimpArgs false
namespace Go.Proofs.Ytcdiajjadgbngaa.Pure
open Go.RowKit Go.Proofs.Ytcdiajjadgbngaa.PFnExactNeedOf Go.Proofs.YtcdiajjadgbngaaW.PrintWords Go.Proofs.YtcdiajjadgbngaaW.PrintLast Go.Proofs.YtcdiajjadgbngaaW.PrintMore

theorem wrapS {x : Int} (h1 : -9223372036854775808 ≤ x) (h2 : x ≤ 9223372036854775807) : wrap64 x = x := by
  unfold wrap64
  omega
theorem i64wf {x : Int} (h : (Lit.int .i64 x).wf = true) : -9223372036854775808 ≤ x ∧ x ≤ 9223372036854775807 := by
  have h1 : (decide (IntKind.i64.min ≤ x) && decide (x ≤ IntKind.i64.max)) = true := h
  rw [Bool.and_eq_true, decide_eq_true_eq, decide_eq_true_eq] at h1
  exact h1
theorem u8wf {x : Int} (h : (Lit.int .u8 x).wf = true) : 0 ≤ x ∧ x ≤ 255 := by
  have h1 : (decide (IntKind.u8.min ≤ x) && decide (x ≤ IntKind.u8.max)) = true := h
  rw [Bool.and_eq_true, decide_eq_true_eq, decide_eq_true_eq] at h1
  exact h1
/-- What is told of some number of rounds is told of any three together. -/
theorem evNow {α : Type} {g : Option α} {r : α} (h : g = some r) : Ev (fun _ => g) r := ⟨0, fun _ _ => h⟩
theorem one_add_neg (n : Nat) : ((1 : Int) + (n : Int) < 0) = False := by
  simp only [eq_iff_iff, iff_false]
  omega

theorem set_take_succ {α : Type} (d : α) (o l : List α) (n : Nat) (ho : o.length = l.length) (hn : n < l.length) (ht : o.take n = l.take n) : (o.set n (l.getD n d)).take (n + 1) = l.take (n + 1) := by
  apply List.ext_getElem?
  intro j
  have hj := congrArg (fun t => t[j]?) ht
  simp only [List.getElem?_take] at hj ⊢
  by_cases h1 : j < n
  · rw [if_pos h1, if_pos h1] at hj
    rw [if_pos (by omega), if_pos (by omega), List.getElem?_set_ne (by omega)]
    exact hj
  · by_cases h2 : j = n
    · subst h2
      rw [if_pos (by omega), if_pos (by omega), List.getElem?_set_self (by omega), List.getElem?_eq_getElem hn, List.getD_eq_getElem?_getD, List.getElem?_eq_getElem hn]
      rfl
    · rw [if_neg (by omega), if_neg (by omega)]
theorem take_all {α : Type} {o l : List α} (n : Nat) (ho : o.length = l.length) (hn : l.length ≤ n) (ht : o.take n = l.take n) : o = l := by
  rw [List.take_of_length_le (by omega), List.take_of_length_le (by omega)] at ht
  exact ht

def cv (x : S71) : S69 := ⟨x.f0, x.f1, x.f2, x.f3⟩
theorem cv_rd (l : List S71) (i : Int) (h0 : 0 ≤ i) (h1 : i < l.length) : cv (rd_T71 l i) = (l.map cv).getD i.toNat z69 := by
  simp only [rd_T71, List.getD_eq_getElem?_getD, List.getElem?_map, List.getElem?_eq_getElem (show i.toNat < l.length by omega)]
  rfl
theorem laws_toMemberS_ev (l : List S71) (hl : l.length ≤ 1048576) : Ev (fun k => laws_toMemberS.f k l) (l.map cv) := by
  have hm : (l.map cv).length = l.length := by simp
  have key : ∀ (d : Nat) (o : List S69) (i : Int), 0 ≤ i → o.length = l.length → i + d = l.length → o.take i.toNat = (l.map cv).take i.toNat → Ev (fun k => laws_toMemberS.l0 k l o i) (l.map cv) := by
    intro d
    induction d with
    | zero =>
      intro o i h0 ho hi ht
      refine Ev.step (f := fun _ => some (l.map cv)) (fun k => ?_) (Ev.now _)
      simp only [laws_toMemberS.l0]
      rw [if_neg (by omega), take_all i.toNat (by omega) (by omega) ht]
    | succ d ih =>
      intro o i h0 ho hi ht
      refine Ev.step (f := fun k => laws_toMemberS.l0 k l (o.set i.toNat ((l.map cv).getD i.toNat z69)) (i + 1)) (fun k => ?_) (ih _ _ (by omega) (by simpa using ho) (by omega) ?_)
      · simp only [laws_toMemberS.l0, laws_toMember.f, Option.bind_some]
        rw [if_pos (by omega), if_pos h0, if_pos (by omega), wrapS (by omega) (by omega), ← cv_rd l i h0 (by omega)]
        rfl
      · rw [show (i + 1).toNat = i.toNat + 1 from by omega]
        exact set_take_succ _ o _ i.toNat (by omega) (by omega) ht
  refine Ev.congr (f := fun k => laws_toMemberS.l0 k l (List.replicate l.length z69) 0) (fun k => ?_) (key l.length _ 0 (by omega) (by simp) (by omega) (by simp))
  unfold laws_toMemberS.f
  rw [if_pos (by omega), if_pos (by omega)]
  rfl
theorem laws_eqMemberS_ev (l : List S69) (hl : l.length ≤ 1048576) : Ev (fun k => laws_eqMemberS.f k l l) true := by
  have key : ∀ (d : Nat) (i : Int), 0 ≤ i → i + d = l.length → Ev (fun k => laws_eqMemberS.l0 k l l i) true := by
    intro d
    induction d with
    | zero =>
      intro i h0 hi
      refine Ev.step (f := fun _ => some true) (fun k => ?_) (Ev.now _)
      simp only [laws_eqMemberS.l0]
      rw [if_neg (by omega)]
    | succ d ih =>
      intro i h0 hi
      refine Ev.step (f := fun k => laws_eqMemberS.l0 k l l (i + 1)) (fun k => ?_) (ih _ (by omega) (by omega))
      simp only [laws_eqMemberS.l0, laws_eqMember.f]
      rw [if_pos (by omega), if_pos h0, if_pos (by omega), wrapS (by omega) (by omega)]
      simp
  refine Ev.congr (f := fun k => laws_eqMemberS.l0 k l l 0) (fun k => ?_) (key l.length 0 (by omega) (by omega))
  unfold laws_eqMemberS.f
  rw [if_pos rfl]
theorem laws_szMemberS_is (l : List S71) (hl : l.length ≤ 9223372036854775807) : laws_szMemberS.f l 1048576 = some (if (l.length : Int) ≤ 1048576 then 1048576 - (l.length : Int) else -1) := by
  unfold laws_szMemberS.f
  rw [wrapS (by omega) (by omega)]
  by_cases c : (l.length : Int) ≤ 1048576
  · rw [if_neg (by omega), if_pos c]
  · rw [if_pos (by omega), if_neg c]
theorem drop_rdM (l : List S69) (i : Int) (h0 : 0 ≤ i) (h1 : i < l.length) : l.drop i.toNat = rd_T69 l i :: l.drop (i + 1).toNat := by
  rw [show (i + 1).toNat = i.toNat + 1 from by omega, List.drop_eq_getElem_cons (by omega)]
  congr 1
  simp [rd_T69, List.getD_eq_getElem?_getD, List.getElem?_eq_getElem (show i.toNat < l.length by omega)]

/-- One member, as it stands at place i. -/
def crewOk (l : List S69) (i : Int) : Bool := decide ((1 ≤ (rd_T69 l i).f0 ∧ (rd_T69 l i).f0 ≤ 99) ∧ (0 ≤ (rd_T69 l i).f1 ∧ (rd_T69 l i).f1 ≤ 100) ∧ (1 ≤ (rd_T69 l i).f2 ∧ (rd_T69 l i).f2 ≤ 10) ∧ (0 < i → (rd_T69 l (i - 1)).f0 < (rd_T69 l i).f0))
def crewGo (l : List S69) : Nat → Int → Bool
  | 0, _ => decide ((1 : Int) ≤ l.length ∧ (l.length : Int) ≤ 8)
  | d + 1, i => crewOk l i && crewGo l d (i + 1)
def areCrew (l : List S69) : Bool := crewGo l l.length 0

def needGo (s : Int) (l : List S69) : Int := l.foldl (fun s x => wrap64 (s + x.f2)) s
def needOf (l : List S69) : Int := if areCrew l = true then needGo 0 l else 0

theorem impl_InRange_is (a b c : Int) : impl_InRange.f a b c = some (decide (b ≤ a ∧ a ≤ c)) := by
  unfold impl_InRange.f
  by_cases h : b ≤ a <;> simp [h]

theorem impl_AreCrew_ev (l : List S69) (hl : l.length ≤ 1048576) : Ev (fun k => impl_AreCrew.f k l) (areCrew l) := by
  have key : ∀ (d : Nat) (i : Int), 0 ≤ i → i + d = l.length → Ev (fun k => impl_AreCrew.l0 k l l (l.length : Int) i) (crewGo l d i) := by
    intro d
    induction d with
    | zero =>
      intro i h0 hi
      refine Ev.step (f := fun _ => some (crewGo l 0 i)) (fun k => ?_) (Ev.now _)
      simp only [impl_AreCrew.l0, impl_InRange_is, Option.bind_some, crewGo]
      rw [if_neg (by omega)]
    | succ d ih =>
      intro i h0 hi
      have hi2 := ih (i + 1) (by omega) (by omega)
      unfold crewGo
      by_cases c : crewOk l i = true
      · rw [c, Bool.true_and]
        simp only [crewOk, decide_eq_true_eq] at c
        obtain ⟨c1, c2, c3, c4⟩ := c
        refine Ev.step (f := fun k => impl_AreCrew.l0 k l l (l.length : Int) (i + 1)) (fun k => ?_) hi2
        simp only [impl_AreCrew.l0, impl_InRange_is, Option.bind_some, decide_eq_true c1, decide_eq_true c2, decide_eq_true c3, if_true]
        rw [if_pos (by omega), if_pos h0, if_pos (by omega), wrapS (x := i + 1) (by omega) (by omega), wrapS (x := i - 1) (by omega) (by omega)]
        by_cases c5 : i > 0
        · have := c4 c5
          rw [if_pos c5, if_pos (by omega), if_pos (by omega), if_neg (by omega)]
        · rw [if_neg c5]
      · rw [Bool.not_eq_true] at c
        rw [c, Bool.false_and]
        simp only [crewOk, decide_eq_false_iff_not] at c
        refine Ev.step (f := fun _ => some false) (fun k => ?_) (Ev.now _)
        simp only [impl_AreCrew.l0, impl_InRange_is, Option.bind_some]
        rw [if_pos (by omega), if_pos h0, if_pos (by omega), wrapS (x := i + 1) (by omega) (by omega), wrapS (x := i - 1) (by omega) (by omega)]
        by_cases c1 : 1 ≤ (rd_T69 l i).f0 ∧ (rd_T69 l i).f0 ≤ 99
        · simp only [decide_eq_true c1, if_true]
          by_cases c4 : 0 < i ∧ ¬ (rd_T69 l (i - 1)).f0 < (rd_T69 l i).f0
          · rw [if_pos c4.1, if_pos (by omega), if_pos (by omega), if_pos (by omega)]
          · have c23 : ¬ ((0 ≤ (rd_T69 l i).f1 ∧ (rd_T69 l i).f1 ≤ 100) ∧ (1 ≤ (rd_T69 l i).f2 ∧ (rd_T69 l i).f2 ≤ 10)) := fun hn => c ⟨c1, hn.1, hn.2, fun hp => Classical.byContradiction fun hq => c4 ⟨hp, hq⟩⟩
            have fin : ∀ X : Option Bool, (if decide (0 ≤ (rd_T69 l i).f1 ∧ (rd_T69 l i).f1 ≤ 100) = true then (if decide (1 ≤ (rd_T69 l i).f2 ∧ (rd_T69 l i).f2 ≤ 10) = true then X else some false) else some false) = some false := by
              intro X
              by_cases c2 : 0 ≤ (rd_T69 l i).f1 ∧ (rd_T69 l i).f1 ≤ 100
              · by_cases c3 : 1 ≤ (rd_T69 l i).f2 ∧ (rd_T69 l i).f2 ≤ 10
                · exact absurd ⟨c2, c3⟩ c23
                · simp only [decide_eq_true c2, decide_eq_false c3, if_true, Bool.false_eq_true, if_false]
              · simp only [decide_eq_false c2, Bool.false_eq_true, if_false]
            by_cases c5 : i > 0
            · have c6 : (rd_T69 l (i - 1)).f0 < (rd_T69 l i).f0 := Classical.byContradiction fun hq => c4 ⟨c5, hq⟩
              rw [if_pos c5, if_pos (by omega), if_pos (by omega), if_neg (by omega)]
              exact fin _
            · rw [if_neg c5]
              exact fin _
        · simp only [decide_eq_false c1, Bool.false_eq_true, if_false]
  exact key l.length 0 (by omega) (by omega)

theorem impl_NeedOf_ev (l : List S69) (hl : l.length ≤ 1048576) : Ev (fun k => impl_NeedOf.f k l) (needOf l) := by
  have key : ∀ (d : Nat) (s i : Int), 0 ≤ i → i + d = l.length → Ev (fun k => impl_NeedOf.l0 k s l (l.length : Int) i) (needGo s (l.drop i.toNat)) := by
    intro d
    induction d with
    | zero =>
      intro s i h0 hi
      rw [List.drop_eq_nil_of_le (by omega)]
      refine Ev.step (f := fun _ => some s) (fun k => ?_) (Ev.now _)
      simp only [impl_NeedOf.l0]
      rw [if_neg (by omega)]
    | succ d ih =>
      intro s i h0 hi
      rw [drop_rdM l i h0 (by omega)]
      refine Ev.step (f := fun k => impl_NeedOf.l0 k (wrap64 (s + (rd_T69 l i).f2)) l (l.length : Int) (i + 1)) (fun k => ?_) (ih _ (i + 1) (by omega) (by omega))
      simp only [impl_NeedOf.l0]
      rw [if_pos (by omega), if_pos h0, if_pos (by omega), wrapS (x := i + 1) (by omega) (by omega)]
  unfold impl_NeedOf.f needOf
  refine Ev.bind (impl_AreCrew_ev l hl) ?_
  cases areCrew l with
  | false => simp only [Bool.false_eq_true, if_false]; exact Ev.now _
  | true => simp only [if_true]; exact key l.length 0 0 (by omega) (by omega)

theorem spec_l1In_is (a b c : Int) : spec_l1In.f a b c = some (decide (b ≤ a ∧ a ≤ c)) := by
  unfold spec_l1In.f
  by_cases h : b ≤ a <;> simp [h]

theorem spec_AreCrew_ev (l : List S69) (hl : l.length ≤ 1048576) : Ev (fun k => spec_AreCrew.f k l) (areCrew l) := by
  have key : ∀ (d : Nat) (i : Int), 0 ≤ i → i + d = l.length → Ev (fun k => spec_AreCrew.l0 k l i) (crewGo l d i) := by
    intro d
    induction d with
    | zero =>
      intro i h0 hi
      refine Ev.step (f := fun _ => some (crewGo l 0 i)) (fun k => ?_) (Ev.now _)
      simp only [spec_AreCrew.l0, spec_l1In_is, Option.bind_some, crewGo]
      rw [if_neg (by omega)]
    | succ d ih =>
      intro i h0 hi
      have hi2 := ih (i + 1) (by omega) (by omega)
      unfold crewGo
      by_cases c : crewOk l i = true
      · rw [c, Bool.true_and]
        simp only [crewOk, decide_eq_true_eq] at c
        obtain ⟨c1, c2, c3, c4⟩ := c
        refine Ev.step (f := fun k => spec_AreCrew.l0 k l (i + 1)) (fun k => ?_) hi2
        simp only [spec_AreCrew.l0, spec_l1In_is, Option.bind_some, decide_eq_true c1, decide_eq_true c2, decide_eq_true c3, if_true]
        rw [if_pos (by omega), if_pos h0, wrapS (x := i + 1) (by omega) (by omega), wrapS (x := i - 1) (by omega) (by omega)]
        by_cases c5 : i > 0
        · have := c4 c5
          rw [if_pos c5, if_pos (by omega), if_pos (by omega), if_neg (by omega)]
        · rw [if_neg c5]
      · rw [Bool.not_eq_true] at c
        rw [c, Bool.false_and]
        simp only [crewOk, decide_eq_false_iff_not] at c
        refine Ev.step (f := fun _ => some false) (fun k => ?_) (Ev.now _)
        simp only [spec_AreCrew.l0, spec_l1In_is, Option.bind_some]
        rw [if_pos (by omega), if_pos h0, wrapS (x := i + 1) (by omega) (by omega), wrapS (x := i - 1) (by omega) (by omega)]
        by_cases c1 : 1 ≤ (rd_T69 l i).f0 ∧ (rd_T69 l i).f0 ≤ 99
        · by_cases c2 : 0 ≤ (rd_T69 l i).f1 ∧ (rd_T69 l i).f1 ≤ 100
          · by_cases c3 : 1 ≤ (rd_T69 l i).f2 ∧ (rd_T69 l i).f2 ≤ 10
            · simp only [decide_eq_true c1, decide_eq_true c2, decide_eq_true c3, if_true]
              have c4 : 0 < i ∧ ¬ (rd_T69 l (i - 1)).f0 < (rd_T69 l i).f0 := Classical.byContradiction fun hn => c ⟨c1, c2, c3, fun hp => Classical.byContradiction fun hq => hn ⟨hp, hq⟩⟩
              rw [if_pos c4.1, if_pos (by omega), if_pos (by omega), if_pos (by omega)]
            · simp only [decide_eq_true c1, decide_eq_true c2, decide_eq_false c3, if_true, Bool.false_eq_true, if_false]
          · simp only [decide_eq_true c1, decide_eq_false c2, if_true, Bool.false_eq_true, if_false]
        · simp only [decide_eq_false c1, Bool.false_eq_true, if_false]
  exact key l.length 0 (by omega) (by omega)

theorem spec_NeedOf_ev (l : List S69) (hl : l.length ≤ 1048576) : Ev (fun k => spec_NeedOf.f k l) (needOf l) := by
  have key : areCrew l = true → ∀ (d : Nat) (s i : Int), 0 ≤ i → i + d = l.length → Ev (fun k => spec_NeedOf.l0 k l s i) (needGo s (l.drop i.toNat)) := by
    intro e d
    induction d with
    | zero =>
      intro s i h0 hi
      rw [List.drop_eq_nil_of_le (by omega)]
      refine Ev.step (f := fun _ => some s) (fun k => ?_) (Ev.now _)
      simp only [spec_NeedOf.l0]
      rw [if_neg (by omega)]
    | succ d ih =>
      intro s i h0 hi
      rw [drop_rdM l i h0 (by omega)]
      refine Ev.step (f := fun k => (spec_AreCrew.f k l).bind fun t => if t = true then (if 0 ≤ i then spec_NeedOf.l0 k l (wrap64 (s + (rd_T69 l i).f2)) (i + 1) else none) else some s) (fun k => ?_) (Ev.bind (spec_AreCrew_ev l hl) ?_)
      · simp only [spec_NeedOf.l0]
        rw [if_pos (by omega), wrapS (x := i + 1) (by omega) (by omega)]
      · rw [e]
        simp only [if_true, if_pos h0]
        exact ih _ (i + 1) (by omega) (by omega)
  unfold spec_NeedOf.f needOf
  cases e : areCrew l with
  | true => simp only [if_true]; exact key e l.length 0 0 (by omega) (by omega)
  | false =>
    simp only [Bool.false_eq_true, if_false]
    by_cases c : (0 : Int) < l.length
    · refine Ev.step (f := fun k => (spec_AreCrew.f k l).bind fun t => if t = true then (if (0 : Int) ≤ 0 then spec_NeedOf.l0 k l (wrap64 (0 + (rd_T69 l 0).f2)) (wrap64 (0 + 1)) else none) else some 0) (fun k => ?_) (Ev.bind (spec_AreCrew_ev l hl) ?_)
      · simp only [spec_NeedOf.l0]
        rw [if_pos c]
      · rw [e]
        simp only [Bool.false_eq_true, if_false]
        exact Ev.now _
    · refine Ev.step (f := fun _ => some 0) (fun k => ?_) (Ev.now _)
      simp only [spec_NeedOf.l0]
      rw [if_neg c]

theorem FnExactNeedOf (l : List S71) (hl : l.length ≤ 9223372036854775807) : ∃ k, laws_FnExactNeedOf.f k l = some true := by
  apply Ev.rounds
  unfold laws_FnExactNeedOf.f
  rw [laws_szMemberS_is l hl]
  simp only [Option.bind_some]
  have hm : (l.map cv).length = l.length := by simp
  by_cases h1 : (l.length : Int) ≤ 1048576
  · simp only [if_pos h1, if_neg (show ¬ 1048576 - (l.length : Int) < 0 from by omega)]
    refine Ev.bind (laws_toMemberS_ev l (by omega)) ?_
    refine Ev.bind (spec_NeedOf_ev (l.map cv) (by omega)) ?_
    refine Ev.bind (laws_toMemberS_ev l (by omega)) ?_
    refine Ev.bind (impl_NeedOf_ev (l.map cv) (by omega)) ?_
    simp only [if_true, if_false, Bool.false_eq_true, Bool.not_true, Bool.not_false, bne_self_eq_false, eq_self, ite_true, ite_false, reduceIte]
    refine Ev.bind (laws_toMemberS_ev l (by omega)) ?_
    refine Ev.bind (laws_eqMemberS_ev (l.map cv) (by omega)) ?_
    simp only [if_true, if_false, Bool.false_eq_true, Bool.not_true, Bool.not_false, bne_self_eq_false, eq_self, ite_true, ite_false, reduceIte]
    exact Ev.now _
  · simp only [if_neg h1]
    exact Ev.now _

end Go.Proofs.Ytcdiajjadgbngaa.Pure
