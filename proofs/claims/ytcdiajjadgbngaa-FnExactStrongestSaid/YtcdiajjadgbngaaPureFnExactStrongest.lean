/- FnExactStrongest answers true, for each list of members. -/
import Derived.Test.YtcdiajjadgbngaaPFnExactStrongestx2
set_option linter.unusedVariables false
set_option linter.unusedSimpArgs false
namespace Go.Proofs.Ytcdiajjadgbngaa.Pure
open Go.RowKit Go.Proofs.Ytcdiajjadgbngaa.PFnExactStrongest Go.Proofs.YtcdiajjadgbngaaW.PrintWords Go.Proofs.YtcdiajjadgbngaaW.PrintLast Go.Proofs.YtcdiajjadgbngaaW.PrintMore

theorem wrapS {x : Int} (h1 : -9223372036854775808 ≤ x) (h2 : x ≤ 9223372036854775807) : wrap64 x = x := by
  unfold wrap64
  omega
theorem i64wf {x : Int} (h : (Lit.int .i64 x).wf = true) : -9223372036854775808 ≤ x ∧ x ≤ 9223372036854775807 := by
  have h1 : (decide (IntKind.i64.min ≤ x) && decide (x ≤ IntKind.i64.max)) = true := h
  rw [Bool.and_eq_true, decide_eq_true_eq, decide_eq_true_eq] at h1
  exact h1
theorem u8wf {x : Int} (h : (Lit.int .u8 x).wf = true) : 0 ≤ x ∧ x ≤ 255 := by
  have h1 : (decide (IntKind.u8.min ≤ x) && decide (x ≤ IntKind.u8.max)) = true := h
  rw [Bool.and_eq_true, decide_eq_true_eq, decide_eq_true_eq] at h1
  exact h1
/-- What is told of some number of rounds is told of any three together. -/
theorem evNow {α : Type} {g : Option α} {r : α} (h : g = some r) : Ev (fun _ => g) r := ⟨0, fun _ _ => h⟩
theorem one_add_neg (n : Nat) : ((1 : Int) + (n : Int) < 0) = False := by
  simp only [eq_iff_iff, iff_false]
  omega

theorem set_take_succ {α : Type} (d : α) (o l : List α) (n : Nat) (ho : o.length = l.length) (hn : n < l.length) (ht : o.take n = l.take n) : (o.set n (l.getD n d)).take (n + 1) = l.take (n + 1) := by
  apply List.ext_getElem?
  intro j
  have hj := congrArg (fun t => t[j]?) ht
  simp only [List.getElem?_take] at hj ⊢
  by_cases h1 : j < n
  · rw [if_pos h1, if_pos h1] at hj
    rw [if_pos (by omega), if_pos (by omega), List.getElem?_set_ne (by omega)]
    exact hj
  · by_cases h2 : j = n
    · subst h2
      rw [if_pos (by omega), if_pos (by omega), List.getElem?_set_self (by omega), List.getElem?_eq_getElem hn, List.getD_eq_getElem?_getD, List.getElem?_eq_getElem hn]
      rfl
    · rw [if_neg (by omega), if_neg (by omega)]
theorem take_all {α : Type} {o l : List α} (n : Nat) (ho : o.length = l.length) (hn : l.length ≤ n) (ht : o.take n = l.take n) : o = l := by
  rw [List.take_of_length_le (by omega), List.take_of_length_le (by omega)] at ht
  exact ht

def cv (x : S71) : S69 := ⟨x.f0, x.f1, x.f2, x.f3⟩
theorem cv_rd (l : List S71) (i : Int) (h0 : 0 ≤ i) (h1 : i < l.length) : cv (rd_T71 l i) = (l.map cv).getD i.toNat z69 := by
  simp only [rd_T71, List.getD_eq_getElem?_getD, List.getElem?_map, List.getElem?_eq_getElem (show i.toNat < l.length by omega)]
  rfl
theorem laws_toMemberS_ev (l : List S71) (hl : l.length ≤ 1048576) : Ev (fun k => laws_toMemberS.f k l) (l.map cv) := by
  have hm : (l.map cv).length = l.length := by simp
  have key : ∀ (d : Nat) (o : List S69) (i : Int), 0 ≤ i → o.length = l.length → i + d = l.length → o.take i.toNat = (l.map cv).take i.toNat → Ev (fun k => laws_toMemberS.l0 k l o i) (l.map cv) := by
    intro d
    induction d with
    | zero =>
      intro o i h0 ho hi ht
      refine Ev.step (f := fun _ => some (l.map cv)) (fun k => ?_) (Ev.now _)
      simp only [laws_toMemberS.l0]
      rw [if_neg (by omega), take_all i.toNat (by omega) (by omega) ht]
    | succ d ih =>
      intro o i h0 ho hi ht
      refine Ev.step (f := fun k => laws_toMemberS.l0 k l (o.set i.toNat ((l.map cv).getD i.toNat z69)) (i + 1)) (fun k => ?_) (ih _ _ (by omega) (by simpa using ho) (by omega) ?_)
      · simp only [laws_toMemberS.l0, laws_toMember.f, Option.bind_some]
        rw [if_pos (by omega), if_pos h0, if_pos (by omega), wrapS (by omega) (by omega), ← cv_rd l i h0 (by omega)]
        rfl
      · rw [show (i + 1).toNat = i.toNat + 1 from by omega]
        exact set_take_succ _ o _ i.toNat (by omega) (by omega) ht
  refine Ev.congr (f := fun k => laws_toMemberS.l0 k l (List.replicate l.length z69) 0) (fun k => ?_) (key l.length _ 0 (by omega) (by simp) (by omega) (by simp))
  unfold laws_toMemberS.f
  rw [if_pos (by omega), if_pos (by omega)]
  rfl
theorem laws_eqMemberS_ev (l : List S69) (hl : l.length ≤ 1048576) : Ev (fun k => laws_eqMemberS.f k l l) true := by
  have key : ∀ (d : Nat) (i : Int), 0 ≤ i → i + d = l.length → Ev (fun k => laws_eqMemberS.l0 k l l i) true := by
    intro d
    induction d with
    | zero =>
      intro i h0 hi
      refine Ev.step (f := fun _ => some true) (fun k => ?_) (Ev.now _)
      simp only [laws_eqMemberS.l0]
      rw [if_neg (by omega)]
    | succ d ih =>
      intro i h0 hi
      refine Ev.step (f := fun k => laws_eqMemberS.l0 k l l (i + 1)) (fun k => ?_) (ih _ (by omega) (by omega))
      simp only [laws_eqMemberS.l0, laws_eqMember.f]
      rw [if_pos (by omega), if_pos h0, if_pos (by omega), wrapS (by omega) (by omega)]
      simp
  refine Ev.congr (f := fun k => laws_eqMemberS.l0 k l l 0) (fun k => ?_) (key l.length 0 (by omega) (by omega))
  unfold laws_eqMemberS.f
  rw [if_pos rfl]
theorem laws_szMemberS_is (l : List S71) (hl : l.length ≤ 9223372036854775807) : laws_szMemberS.f l 1048576 = some (if (l.length : Int) ≤ 1048576 then 1048576 - (l.length : Int) else -1) := by
  unfold laws_szMemberS.f
  rw [wrapS (by omega) (by omega)]
  by_cases c : (l.length : Int) ≤ 1048576
  · rw [if_neg (by omega), if_pos c]
  · rw [if_pos (by omega), if_neg c]
theorem drop_rdM (l : List S69) (i : Int) (h0 : 0 ≤ i) (h1 : i < l.length) : l.drop i.toNat = rd_T69 l i :: l.drop (i + 1).toNat := by
  rw [show (i + 1).toNat = i.toNat + 1 from by omega, List.drop_eq_getElem_cons (by omega)]
  congr 1
  simp [rd_T69, List.getD_eq_getElem?_getD, List.getElem?_eq_getElem (show i.toNat < l.length by omega)]

def strGo (l : List S69) : Nat → Int → Int → Int
  | 0, b, _ => if b < 0 then 0 else (rd_T69 l b).f0
  | d + 1, b, i => if (rd_T69 l i).f3 = true then strGo l d b (i + 1) else if b < 0 then strGo l d i (i + 1) else if (rd_T69 l i).f1 > (rd_T69 l b).f1 then strGo l d i (i + 1) else strGo l d b (i + 1)
def strongest (l : List S69) : Int := strGo l l.length (-1) 0

theorem impl_Strongest_ev (l : List S69) (hl : l.length ≤ 1048576) : Ev (fun k => impl_Strongest.f k l) (strongest l) := by
  have key : ∀ (d : Nat) (b i : Int), -1 ≤ b → b < i → 0 ≤ i → i + d = l.length → Ev (fun k => impl_Strongest.l0 k l b l (l.length : Int) i) (strGo l d b i) := by
    intro d
    induction d with
    | zero =>
      intro b i hb hb2 h0 hi
      refine Ev.step (f := fun _ => some (strGo l 0 b i)) (fun k => ?_) (Ev.now _)
      simp only [impl_Strongest.l0, strGo]
      rw [if_neg (by omega)]
      by_cases c : b < 0
      · rw [if_pos c, if_pos c]
      · rw [if_neg c, if_neg c, if_pos (by omega), if_pos (by omega)]
    | succ d ih =>
      intro b i hb hb2 h0 hi
      unfold strGo
      by_cases c1 : (rd_T69 l i).f3 = true
      · rw [if_pos c1]
        refine Ev.step (f := fun k => impl_Strongest.l0 k l b l (l.length : Int) (i + 1)) (fun k => ?_) (ih b (i + 1) (by omega) (by omega) (by omega) (by omega))
        simp only [impl_Strongest.l0]
        rw [if_pos (by omega), if_pos h0, if_pos (by omega), if_pos c1, wrapS (by omega) (by omega)]
      · rw [if_neg c1]
        by_cases c2 : b < 0
        · rw [if_pos c2]
          refine Ev.step (f := fun k => impl_Strongest.l0 k l i l (l.length : Int) (i + 1)) (fun k => ?_) (ih i (i + 1) (by omega) (by omega) (by omega) (by omega))
          simp only [impl_Strongest.l0]
          rw [if_pos (by omega), if_pos h0, if_pos (by omega), if_neg c1, if_pos c2, wrapS (by omega) (by omega)]
        · rw [if_neg c2]
          by_cases c3 : (rd_T69 l i).f1 > (rd_T69 l b).f1
          · rw [if_pos c3]
            refine Ev.step (f := fun k => impl_Strongest.l0 k l i l (l.length : Int) (i + 1)) (fun k => ?_) (ih i (i + 1) (by omega) (by omega) (by omega) (by omega))
            simp only [impl_Strongest.l0]
            rw [if_pos (by omega), if_pos h0, if_pos (by omega), if_neg c1, if_neg c2, if_pos (by omega), if_pos (by omega), if_pos c3, wrapS (by omega) (by omega)]
          · rw [if_neg c3]
            refine Ev.step (f := fun k => impl_Strongest.l0 k l b l (l.length : Int) (i + 1)) (fun k => ?_) (ih b (i + 1) (by omega) (by omega) (by omega) (by omega))
            simp only [impl_Strongest.l0]
            rw [if_pos (by omega), if_pos h0, if_pos (by omega), if_neg c1, if_neg c2, if_pos (by omega), if_pos (by omega), if_neg c3, wrapS (by omega) (by omega)]
  exact key l.length (-1) 0 (by omega) (by omega) (by omega) (by omega)

theorem spec_Strongest_ev (l : List S69) (hl : l.length ≤ 1048576) : Ev (fun k => spec_Strongest.f k l) (strongest l) := by
  have key : ∀ (d : Nat) (b i : Int), -1 ≤ b → b < i → 0 ≤ i → i + d = l.length → Ev (fun k => spec_Strongest.l0 k l b i) (strGo l d b i) := by
    intro d
    induction d with
    | zero =>
      intro b i hb hb2 h0 hi
      refine Ev.step (f := fun _ => some (strGo l 0 b i)) (fun k => ?_) (Ev.now _)
      simp only [spec_Strongest.l0, strGo]
      rw [if_neg (by omega)]
      by_cases c : b < 0
      · rw [if_pos c, if_pos c]
      · rw [if_neg c, if_neg c, if_pos (by omega), if_pos (by omega)]
    | succ d ih =>
      intro b i hb hb2 h0 hi
      unfold strGo
      by_cases c1 : (rd_T69 l i).f3 = true
      · rw [if_pos c1]
        refine Ev.step (f := fun k => spec_Strongest.l0 k l b (i + 1)) (fun k => ?_) (ih b (i + 1) (by omega) (by omega) (by omega) (by omega))
        simp only [spec_Strongest.l0]
        rw [if_pos (by omega), if_pos h0, if_pos c1, wrapS (by omega) (by omega)]
      · rw [if_neg c1]
        by_cases c2 : b < 0
        · rw [if_pos c2]
          refine Ev.step (f := fun k => spec_Strongest.l0 k l i (i + 1)) (fun k => ?_) (ih i (i + 1) (by omega) (by omega) (by omega) (by omega))
          simp only [spec_Strongest.l0]
          rw [if_pos (by omega), if_pos h0, if_neg c1, if_pos c2, wrapS (by omega) (by omega)]
        · rw [if_neg c2]
          by_cases c3 : (rd_T69 l i).f1 > (rd_T69 l b).f1
          · rw [if_pos c3]
            refine Ev.step (f := fun k => spec_Strongest.l0 k l i (i + 1)) (fun k => ?_) (ih i (i + 1) (by omega) (by omega) (by omega) (by omega))
            simp only [spec_Strongest.l0]
            rw [if_pos (by omega), if_pos h0, if_neg c1, if_neg c2, if_pos (by omega), if_pos (by omega), if_pos c3, wrapS (by omega) (by omega)]
          · rw [if_neg c3]
            refine Ev.step (f := fun k => spec_Strongest.l0 k l b (i + 1)) (fun k => ?_) (ih b (i + 1) (by omega) (by omega) (by omega) (by omega))
            simp only [spec_Strongest.l0]
            rw [if_pos (by omega), if_pos h0, if_neg c1, if_neg c2, if_pos (by omega), if_pos (by omega), if_neg c3, wrapS (by omega) (by omega)]
  exact key l.length (-1) 0 (by omega) (by omega) (by omega) (by omega)

theorem FnExactStrongest (l : List S71) (hl : l.length ≤ 9223372036854775807) : ∃ k, laws_FnExactStrongest.f k l = some true := by
  apply Ev.rounds
  unfold laws_FnExactStrongest.f
  rw [laws_szMemberS_is l hl]
  simp only [Option.bind_some]
  have hm : (l.map cv).length = l.length := by simp
  by_cases h1 : (l.length : Int) ≤ 1048576
  · simp only [if_pos h1, if_neg (show ¬ 1048576 - (l.length : Int) < 0 from by omega)]
    refine Ev.bind (laws_toMemberS_ev l (by omega)) ?_
    refine Ev.bind (spec_Strongest_ev (l.map cv) (by omega)) ?_
    refine Ev.bind (laws_toMemberS_ev l (by omega)) ?_
    refine Ev.bind (impl_Strongest_ev (l.map cv) (by omega)) ?_
    simp only [if_true, if_false, Bool.false_eq_true, Bool.not_true, Bool.not_false, bne_self_eq_false, eq_self, ite_true, ite_false, reduceIte]
    refine Ev.bind (laws_toMemberS_ev l (by omega)) ?_
    refine Ev.bind (laws_eqMemberS_ev (l.map cv) (by omega)) ?_
    simp only [if_true, if_false, Bool.false_eq_true, Bool.not_true, Bool.not_false, bne_self_eq_false, eq_self, ite_true, ite_false, reduceIte]
    exact Ev.now _
  · simp only [if_neg h1]
    exact Ev.now _

end Go.Proofs.Ytcdiajjadgbngaa.Pure
