/- FnExactKeeps answers true, for each rule and each list of bools. -/
import Derived.Test.YtcdiajjadgbngaaQFnExactKeepsx2
set_option linter.unusedVariables false
set_option linter.unusedSimpArgs false
namespace Go.Proofs.Ytcdiajjadgbngaa.Pure
open Go.RowKit Go.Proofs.Ytcdiajjadgbngaa.QFnExactKeeps Go.Proofs.YtcdiajjadgbngaaW.PrintWords Go.Proofs.YtcdiajjadgbngaaW.PrintLast Go.Proofs.YtcdiajjadgbngaaW.PrintMore

theorem wrapS {x : Int} (h1 : -9223372036854775808 ≤ x) (h2 : x ≤ 9223372036854775807) : wrap64 x = x := by
  unfold wrap64
  omega
theorem i64wf {x : Int} (h : (Lit.int .i64 x).wf = true) : -9223372036854775808 ≤ x ∧ x ≤ 9223372036854775807 := by
  have h1 : (decide (IntKind.i64.min ≤ x) && decide (x ≤ IntKind.i64.max)) = true := h
  rw [Bool.and_eq_true, decide_eq_true_eq, decide_eq_true_eq] at h1
  exact h1
theorem u8wf {x : Int} (h : (Lit.int .u8 x).wf = true) : 0 ≤ x ∧ x ≤ 255 := by
  have h1 : (decide (IntKind.u8.min ≤ x) && decide (x ≤ IntKind.u8.max)) = true := h
  rw [Bool.and_eq_true, decide_eq_true_eq, decide_eq_true_eq] at h1
  exact h1
/-- What is told of some number of rounds is told of any three together. -/
theorem evNow {α : Type} {g : Option α} {r : α} (h : g = some r) : Ev (fun _ => g) r := ⟨0, fun _ _ => h⟩
theorem one_add_neg (n : Nat) : ((1 : Int) + (n : Int) < 0) = False := by
  simp only [eq_iff_iff, iff_false]
  omega

theorem set_take_succ {α : Type} (d : α) (o l : List α) (n : Nat) (ho : o.length = l.length) (hn : n < l.length) (ht : o.take n = l.take n) : (o.set n (l.getD n d)).take (n + 1) = l.take (n + 1) := by
  apply List.ext_getElem?
  intro j
  have hj := congrArg (fun t => t[j]?) ht
  simp only [List.getElem?_take] at hj ⊢
  by_cases h1 : j < n
  · rw [if_pos h1, if_pos h1] at hj
    rw [if_pos (by omega), if_pos (by omega), List.getElem?_set_ne (by omega)]
    exact hj
  · by_cases h2 : j = n
    · subst h2
      rw [if_pos (by omega), if_pos (by omega), List.getElem?_set_self (by omega), List.getElem?_eq_getElem hn, List.getD_eq_getElem?_getD, List.getElem?_eq_getElem hn]
      rfl
    · rw [if_neg (by omega), if_neg (by omega)]
theorem take_all {α : Type} {o l : List α} (n : Nat) (ho : o.length = l.length) (hn : l.length ≤ n) (ht : o.take n = l.take n) : o = l := by
  rw [List.take_of_length_le (by omega), List.take_of_length_le (by omega)] at ht
  exact ht

def cnt (l : List Bool) : Nat := (l.filter id).length
theorem cnt_le (l : List Bool) : cnt l ≤ l.length := List.length_filter_le _ _
theorem cnt_append (a b : List Bool) : cnt (a ++ b) = cnt a + cnt b := by simp [cnt]
theorem cnt_snoc (l : List Bool) (b : Bool) : cnt (l ++ [b]) = cnt l + if b then 1 else 0 := by
  rw [cnt_append]
  cases b <;> simp [cnt]
theorem take_snoc_rd (l : List Bool) (i : Int) (h0 : 0 ≤ i) (h1 : i < l.length) : l.take (i + 1).toNat = l.take i.toNat ++ [rdOf false l i] := by
  rw [show (i + 1).toNat = i.toNat + 1 from by omega, List.take_succ_eq_append_getElem (by omega)]
  congr 1
  simp [rdOf, List.getD_eq_getElem?_getD, List.getElem?_eq_getElem (show i.toNat < l.length by omega)]

def lastN (l : List Bool) (n : Nat) : List Bool := l.drop (l.length - n)
theorem lastN_length (l : List Bool) (n : Nat) : (lastN l n).length = min l.length n := by
  simp only [lastN, List.length_drop]
  omega
theorem lastN_snoc (l : List Bool) (s : Bool) (n : Nat) : lastN (l ++ [s]) (n + 1) = lastN l n ++ [s] := by
  simp only [lastN, List.length_append, List.length_cons, List.length_nil]
  rw [show l.length + (0 + 1) - (n + 1) = l.length - n from by omega, List.drop_append_of_le_length (by omega)]
theorem lastN_lastN (l : List Bool) (m n : Nat) (h : m ≤ n) : lastN (lastN l n) m = lastN l m := by
  simp only [lastN, List.length_drop, List.drop_drop]
  congr 1
  omega
theorem lastN_all (l : List Bool) (n : Nat) (h : l.length ≤ n) : lastN l n = l := by
  simp only [lastN]
  rw [show l.length - n = 0 from by omega, List.drop_zero]
def isRule (m w : Int) : Bool := decide ((1 ≤ w ∧ w ≤ 10) ∧ 0 ≤ m ∧ m ≤ w - 1)
theorem isRule_true {m w : Int} (e : isRule m w = true) : 1 ≤ w ∧ w ≤ 10 ∧ 0 ≤ m ∧ m ≤ w - 1 := by
  simp only [isRule, decide_eq_true_eq] at e
  exact ⟨e.1.1, e.1.2, e.2.1, e.2.2⟩
def mayS (m w : Int) (l : List Bool) : Bool := isRule m w && decide ((cnt (lastN l (w - 1).toNat) : Int) < m)
def addDay (l : List Bool) (s : Bool) : List Bool := lastN (l ++ [s]) 10
theorem addDay_length (l : List Bool) (s : Bool) : (addDay l s).length ≤ 10 := by
  rw [addDay, lastN_length]
  omega

/-- Every window of W days that ends from e on, in d ends, holds at most m storms. -/
def keepsGo (m : Int) (W : Nat) (l : List Bool) : Nat → Nat → Bool
  | 0, _ => true
  | d + 1, e => decide ((cnt (lastN (l.take e) W) : Int) ≤ m) && keepsGo m W l d (e + 1)
def keeps (m w : Int) (l : List Bool) : Bool := isRule m w && keepsGo m w.toNat l l.length 1

theorem impl_last_is (l : List Bool) (n : Int) (h0 : 0 ≤ n) (h1 : n ≤ 1000) (hl : l.length ≤ 17592186044416) : impl_last.f l n = some (lastN l n.toNat) := by
  unfold impl_last.f
  rw [wrapS (by omega) (by omega)]
  have e : mx ((l.length : Int) - n) 0 = ((l.length - n.toNat : Nat) : Int) := by
    unfold mx
    split <;> omega
  rw [e, if_pos (by omega), if_pos (by omega)]
  simp only [lastN, Int.toNat_natCast]

theorem impl_InRange_is (a b c : Int) : impl_InRange.f a b c = some (decide (b ≤ a ∧ a ≤ c)) := by
  unfold impl_InRange.f
  by_cases h : b ≤ a <;> simp [h]

theorem impl_IsRule_is (m w : Int) : impl_IsRule.f m w = some (isRule m w) := by
  unfold impl_IsRule.f
  simp only [impl_InRange_is, Option.bind_some]
  by_cases h : 1 ≤ w ∧ w ≤ 10
  · rw [decide_eq_true h, wrapS (by omega) (by omega)]
    simp [isRule, h]
  · rw [decide_eq_false h]
    simp [isRule, h]

theorem impl_CountStorms_ev (l : List Bool) (hl : l.length ≤ 17592186044416) : Ev (fun k => impl_CountStorms.f k l) (cnt l : Int) := by
  have key : ∀ (d : Nat) (i : Int), 0 ≤ i → i + d = l.length → Ev (fun k => impl_CountStorms.l0 k (cnt (l.take i.toNat) : Int) l (l.length : Int) i) (cnt l : Int) := by
    intro d
    induction d with
    | zero =>
      intro i h0 hi
      refine Ev.step (f := fun _ => some (cnt l : Int)) (fun k => ?_) (Ev.now _)
      simp only [impl_CountStorms.l0]
      rw [if_neg (by omega), List.take_of_length_le (by omega)]
    | succ d ih =>
      intro i h0 hi
      have hc := cnt_le (l.take i.toNat)
      rw [List.length_take] at hc
      refine Ev.step (f := fun k => impl_CountStorms.l0 k (cnt (l.take (i + 1).toNat) : Int) l (l.length : Int) (i + 1)) (fun k => ?_) (ih (i + 1) (by omega) (by omega))
      simp only [impl_CountStorms.l0]
      rw [if_pos (by omega), if_pos h0, if_pos (by omega), take_snoc_rd l i h0 (by omega), cnt_snoc, wrapS (x := i + 1) (by omega) (by omega), wrapS (by omega) (by omega)]
      cases rdOf false l i <;> simp
  exact key l.length 0 (by omega) (by omega)

theorem impl_Keeps_ev (m w : Int) (l : List Bool) (hl : l.length ≤ 17592186044) : Ev (fun k => impl_Keeps.f k m w l) (keeps m w l) := by
  unfold impl_Keeps.f keeps
  rw [impl_IsRule_is]
  simp only [Option.bind_some]
  cases e : isRule m w with
  | false => simp only [Bool.false_eq_true, if_false, Bool.false_and]; exact Ev.now _
  | true =>
    obtain ⟨h1, h2, h3, h4⟩ := isRule_true e
    have key : ∀ (d : Nat) (i : Int), 0 ≤ i → i + d = (l.length : Int) + 1 → Ev (fun k => impl_Keeps.l0 k l ((l.length : Int) + 1) i m w) (keepsGo m w.toNat l d i.toNat) := by
      intro d
      induction d with
      | zero =>
        intro i h0 hi
        refine Ev.step (f := fun _ => some true) (fun k => ?_) (Ev.now _)
        simp only [impl_Keeps.l0]
        rw [if_neg (by omega)]
      | succ d ih =>
        intro i h0 hi
        have hi2 := ih (i + 1) (by omega) (by omega)
        have hlen : (l.take i.toNat).length = i.toNat := by rw [List.length_take]; omega
        have hll := lastN_length (l.take i.toNat) w.toNat
        refine Ev.step (f := fun k => (impl_CountStorms.f k (lastN (l.take i.toNat) w.toNat)).bind fun t => if t > m then some false else impl_Keeps.l0 k l ((l.length : Int) + 1) (i + 1) m w) (fun k => ?_) (Ev.bind (impl_CountStorms_ev _ (by omega)) ?_)
        · simp only [impl_Keeps.l0]
          rw [if_pos (by omega), if_pos h0, if_pos (by omega), impl_last_is _ w (by omega) (by omega) (by omega), wrapS (x := i + 1) (by omega) (by omega)]
          simp only [Option.bind_some]
        · unfold keepsGo
          by_cases c : (cnt (lastN (l.take i.toNat) w.toNat) : Int) ≤ m
          · rw [decide_eq_true c, Bool.true_and, show i.toNat + 1 = (i + 1).toNat from by omega]
            simp only [if_neg (show ¬ (cnt (lastN (l.take i.toNat) w.toNat) : Int) > m from by omega)]
            exact hi2
          · rw [decide_eq_false c, Bool.false_and]
            simp only [if_pos (show (cnt (lastN (l.take i.toNat) w.toNat) : Int) > m from by omega)]
            exact Ev.now _
    simp only [if_true, Bool.true_and]
    rw [wrapS (by omega) (by omega)]
    have h := key (l.length + 1) 0 (by omega) (by omega)
    have e0 : keepsGo m w.toNat l (l.length + 1) (0 : Int).toNat = keepsGo m w.toNat l l.length 1 := by
      rw [keepsGo]
      simp [lastN, cnt, h3]
    rw [e0] at h
    exact h

theorem spec_Max_is (x : Int) : spec_Max.f 0 x = some (if 0 < x then x else 0) := by
  unfold spec_Max.f
  by_cases h : x > 0
  · rw [if_pos h, if_pos h]
  · rw [if_neg h, if_neg (by omega)]

theorem spec_l1In_is (a b c : Int) : spec_l1In.f a b c = some (decide (b ≤ a ∧ a ≤ c)) := by
  unfold spec_l1In.f
  by_cases h : b ≤ a <;> simp [h]

theorem spec_IsRule_is (m w : Int) : spec_IsRule.f m w = some (isRule m w) := by
  unfold spec_IsRule.f
  simp only [spec_l1In_is, Option.bind_some]
  by_cases h : 1 ≤ w ∧ w ≤ 10
  · rw [decide_eq_true h, wrapS (by omega) (by omega)]
    simp [isRule, h]
  · rw [decide_eq_false h]
    simp [isRule, h]

theorem spec_CountStorms_ev (l : List Bool) (hl : l.length ≤ 17592186044416) : Ev (fun k => spec_CountStorms.f k l) (cnt l : Int) := by
  have key : ∀ (d : Nat) (i : Int), 0 ≤ i → i + d = l.length → Ev (fun k => spec_CountStorms.l0 k l (cnt (l.take i.toNat) : Int) i) (cnt l : Int) := by
    intro d
    induction d with
    | zero =>
      intro i h0 hi
      refine Ev.step (f := fun _ => some (cnt l : Int)) (fun k => ?_) (Ev.now _)
      simp only [spec_CountStorms.l0]
      rw [if_neg (by omega), List.take_of_length_le (by omega)]
    | succ d ih =>
      intro i h0 hi
      have hc := cnt_le (l.take i.toNat)
      rw [List.length_take] at hc
      refine Ev.step (f := fun k => spec_CountStorms.l0 k l (cnt (l.take (i + 1).toNat) : Int) (i + 1)) (fun k => ?_) (ih (i + 1) (by omega) (by omega))
      simp only [spec_CountStorms.l0]
      rw [if_pos (by omega), if_pos h0, take_snoc_rd l i h0 (by omega), cnt_snoc, wrapS (x := i + 1) (by omega) (by omega), wrapS (by omega) (by omega)]
      cases rdOf false l i <;> simp
  exact key l.length 0 (by omega) (by omega)

theorem spec_Keeps_ev (m w : Int) (l : List Bool) (hl : l.length ≤ 17592186044) : Ev (fun k => spec_Keeps.f k m w l) (keeps m w l) := by
  unfold spec_Keeps.f keeps
  rw [spec_IsRule_is]
  simp only [Option.bind_some]
  cases e : isRule m w with
  | false => simp only [Bool.false_eq_true, if_false, Bool.false_and]; exact Ev.now _
  | true =>
    obtain ⟨h1, h2, h3, h4⟩ := isRule_true e
    have key : ∀ (d : Nat) (i : Int), 0 ≤ i → i + d = (l.length : Int) → Ev (fun k => spec_Keeps.l0 k l i m w) (keepsGo m w.toNat l d (i + 1).toNat) := by
      intro d
      induction d with
      | zero =>
        intro i h0 hi
        refine Ev.step (f := fun _ => some true) (fun k => ?_) (Ev.now _)
        simp only [spec_Keeps.l0]
        rw [if_neg (by omega)]
      | succ d ih =>
        intro i h0 hi
        have hi2 := ih (i + 1) (by omega) (by omega)
        have hlen : (l.take (i + 1).toNat).length = (i + 1).toNat := by rw [List.length_take]; omega
        have hll := lastN_length (l.take (i + 1).toNat) w.toNat
        have e2 : (if (0 : Int) < i + 1 - w then i + 1 - w else 0) = (((i + 1).toNat - w.toNat : Nat) : Int) := by
          split <;> omega
        have e3 : (l.take (i + 1).toNat).drop ((i + 1).toNat - w.toNat) = lastN (l.take (i + 1).toNat) w.toNat := by
          rw [lastN, hlen]
        refine Ev.step (f := fun k => (spec_CountStorms.f k (lastN (l.take (i + 1).toNat) w.toNat)).bind fun t => if t > m then some false else spec_Keeps.l0 k l (i + 1) m w) (fun k => ?_) (Ev.bind (spec_CountStorms_ev _ (by omega)) ?_)
        · simp only [spec_Keeps.l0]
          rw [if_pos (by omega), wrapS (x := i + 1) (by omega) (by omega), wrapS (x := i + 1 - w) (by omega) (by omega), spec_Max_is, e2]
          simp only [Option.bind_some]
          rw [if_pos (by omega), if_pos (by omega), if_pos (by omega), Int.toNat_natCast, e3]
        · unfold keepsGo
          by_cases c : (cnt (lastN (l.take (i + 1).toNat) w.toNat) : Int) ≤ m
          · rw [decide_eq_true c, Bool.true_and, show (i + 1).toNat + 1 = (i + 1 + 1).toNat from by omega]
            simp only [if_neg (show ¬ (cnt (lastN (l.take (i + 1).toNat) w.toNat) : Int) > m from by omega)]
            exact hi2
          · rw [decide_eq_false c, Bool.false_and]
            simp only [if_pos (show (cnt (lastN (l.take (i + 1).toNat) w.toNat) : Int) > m from by omega)]
            exact Ev.now _
    simp only [if_true, Bool.true_and]
    exact key l.length 0 (by omega) (by omega)

theorem laws_toBoolS_ev (l : List Bool) (hl : l.length ≤ 17592186044416) : Ev (fun k => laws_toBoolS.f k l) l := by
  have key : ∀ (d : Nat) (o : List Bool) (i : Int), 0 ≤ i → o.length = l.length → i + d = l.length → o.take i.toNat = l.take i.toNat → Ev (fun k => laws_toBoolS.l0 k l o i) l := by
    intro d
    induction d with
    | zero =>
      intro o i h0 ho hi ht
      refine Ev.step (f := fun _ => some l) (fun k => ?_) (Ev.now _)
      simp only [laws_toBoolS.l0]
      rw [if_neg (by omega), take_all i.toNat ho (by omega) ht]
    | succ d ih =>
      intro o i h0 ho hi ht
      refine Ev.step (f := fun k => laws_toBoolS.l0 k l (o.set i.toNat (rdOf false l i)) (i + 1)) (fun k => ?_) (ih _ _ (by omega) (by simpa using ho) (by omega) ?_)
      · simp only [laws_toBoolS.l0]
        rw [if_pos (by omega), if_pos h0, if_pos (by omega), wrapS (by omega) (by omega)]
      · rw [show (i + 1).toNat = i.toNat + 1 from by omega]
        exact set_take_succ _ o l i.toNat ho (by omega) ht
  refine Ev.congr (f := fun k => laws_toBoolS.l0 k l (List.replicate l.length false) 0) (fun k => ?_) (key l.length _ 0 (by omega) (by simp) (by omega) (by simp))
  unfold laws_toBoolS.f
  rw [if_pos (by omega), if_pos (by omega)]
  rfl

theorem laws_eqBoolS_ev (l : List Bool) (hl : l.length ≤ 281474976710656) : Ev (fun k => laws_eqBoolS.f k l l) true := by
  have key : ∀ (d : Nat) (i : Int), 0 ≤ i → i + d = l.length → Ev (fun k => laws_eqBoolS.l0 k l l i) true := by
    intro d
    induction d with
    | zero =>
      intro i h0 hi
      refine Ev.step (f := fun _ => some true) (fun k => ?_) (Ev.now _)
      simp only [laws_eqBoolS.l0]
      rw [if_neg (by omega)]
    | succ d ih =>
      intro i h0 hi
      refine Ev.step (f := fun k => laws_eqBoolS.l0 k l l (i + 1)) (fun k => ?_) (ih _ (by omega) (by omega))
      simp only [laws_eqBoolS.l0]
      rw [if_pos (by omega), if_pos h0, if_pos (by omega), wrapS (by omega) (by omega)]
      simp
  refine Ev.congr (f := fun k => laws_eqBoolS.l0 k l l 0) (fun k => ?_) (key l.length 0 (by omega) (by omega))
  unfold laws_eqBoolS.f
  rw [if_pos rfl]



theorem FnExactKeeps (m w : Int) (l : List Bool) (_ : (Lit.int .i64 m).wf = true) (_ : (Lit.int .i64 w).wf = true) : ∃ k, laws_FnExactKeeps.f k m w l = some true := by
  apply Ev.rounds
  unfold laws_FnExactKeeps.f laws_toRule.f
  by_cases h1 : (l.length : Int) > 1048576
  · simp only [if_pos h1]; exact Ev.now _
  simp only [if_neg h1, Option.bind_some]
  refine Ev.bind (laws_toBoolS_ev l (by omega)) ?_
  refine Ev.bind (spec_Keeps_ev m w l (by omega)) ?_
  refine Ev.bind (laws_toBoolS_ev l (by omega)) ?_
  refine Ev.bind (impl_Keeps_ev m w l (by omega)) ?_
  simp only [if_true, if_false, Bool.false_eq_true, Bool.not_true, Bool.not_false, bne_self_eq_false, eq_self, ite_true, ite_false, reduceIte]
  refine Ev.bind (laws_toBoolS_ev l (by omega)) ?_
  refine Ev.bind (laws_eqBoolS_ev l (by omega)) ?_
  simp only [if_true, if_false, Bool.false_eq_true, Bool.not_true, Bool.not_false, bne_self_eq_false, eq_self, ite_true, ite_false, reduceIte]
  exact Ev.now _

end Go.Proofs.Ytcdiajjadgbngaa.Pure
