/- FnExactWorstDays answers true, for each rule, each list of bools and each number that an int holds. -/
import Derived.Test.YtoafabcopihniaaQFnExactWorstDaysx3
set_option linter.unusedVariables false
set_option linter.unusedSimpArgs false
namespace Go.Proofs.Ytoafabcopihniaa.Pure
open Go.RowKit Go.Proofs.Ytoafabcopihniaa.QFnExactWorstDays Go.Proofs.YtoafabcopihniaaW.PrintWords Go.Proofs.YtoafabcopihniaaW.PrintLast Go.Proofs.YtoafabcopihniaaW.PrintMore

theorem wrapS {x : Int} (h1 : -9223372036854775808 ≤ x) (h2 : x ≤ 9223372036854775807) : wrap64 x = x := by
  unfold wrap64
  omega
theorem i64wf {x : Int} (h : (Lit.int .i64 x).wf = true) : -9223372036854775808 ≤ x ∧ x ≤ 9223372036854775807 := by
  have h1 : (decide (IntKind.i64.min ≤ x) && decide (x ≤ IntKind.i64.max)) = true := h
  rw [Bool.and_eq_true, decide_eq_true_eq, decide_eq_true_eq] at h1
  exact h1
theorem u8wf {x : Int} (h : (Lit.int .u8 x).wf = true) : 0 ≤ x ∧ x ≤ 255 := by
  have h1 : (decide (IntKind.u8.min ≤ x) && decide (x ≤ IntKind.u8.max)) = true := h
  rw [Bool.and_eq_true, decide_eq_true_eq, decide_eq_true_eq] at h1
  exact h1
/-- What is told of some number of rounds is told of any three together. -/
theorem evNow {α : Type} {g : Option α} {r : α} (h : g = some r) : Ev (fun _ => g) r := ⟨0, fun _ _ => h⟩
theorem one_add_neg (n : Nat) : ((1 : Int) + (n : Int) < 0) = False := by
  simp only [eq_iff_iff, iff_false]
  omega

theorem set_take_succ {α : Type} (d : α) (o l : List α) (n : Nat) (ho : o.length = l.length) (hn : n < l.length) (ht : o.take n = l.take n) : (o.set n (l.getD n d)).take (n + 1) = l.take (n + 1) := by
  apply List.ext_getElem?
  intro j
  have hj := congrArg (fun t => t[j]?) ht
  simp only [List.getElem?_take] at hj ⊢
  by_cases h1 : j < n
  · rw [if_pos h1, if_pos h1] at hj
    rw [if_pos (by omega), if_pos (by omega), List.getElem?_set_ne (by omega)]
    exact hj
  · by_cases h2 : j = n
    · subst h2
      rw [if_pos (by omega), if_pos (by omega), List.getElem?_set_self (by omega), List.getElem?_eq_getElem hn, List.getD_eq_getElem?_getD, List.getElem?_eq_getElem hn]
      rfl
    · rw [if_neg (by omega), if_neg (by omega)]
theorem take_all {α : Type} {o l : List α} (n : Nat) (ho : o.length = l.length) (hn : l.length ≤ n) (ht : o.take n = l.take n) : o = l := by
  rw [List.take_of_length_le (by omega), List.take_of_length_le (by omega)] at ht
  exact ht

def cnt (l : List Bool) : Nat := (l.filter id).length
theorem cnt_le (l : List Bool) : cnt l ≤ l.length := List.length_filter_le _ _
theorem cnt_append (a b : List Bool) : cnt (a ++ b) = cnt a + cnt b := by simp [cnt]
theorem cnt_snoc (l : List Bool) (b : Bool) : cnt (l ++ [b]) = cnt l + if b then 1 else 0 := by
  rw [cnt_append]
  cases b <;> simp [cnt]
theorem take_snoc_rd (l : List Bool) (i : Int) (h0 : 0 ≤ i) (h1 : i < l.length) : l.take (i + 1).toNat = l.take i.toNat ++ [rdOf false l i] := by
  rw [show (i + 1).toNat = i.toNat + 1 from by omega, List.take_succ_eq_append_getElem (by omega)]
  congr 1
  simp [rdOf, List.getD_eq_getElem?_getD, List.getElem?_eq_getElem (show i.toNat < l.length by omega)]

def lastN (l : List Bool) (n : Nat) : List Bool := l.drop (l.length - n)
theorem lastN_length (l : List Bool) (n : Nat) : (lastN l n).length = min l.length n := by
  simp only [lastN, List.length_drop]
  omega
theorem lastN_snoc (l : List Bool) (s : Bool) (n : Nat) : lastN (l ++ [s]) (n + 1) = lastN l n ++ [s] := by
  simp only [lastN, List.length_append, List.length_cons, List.length_nil]
  rw [show l.length + (0 + 1) - (n + 1) = l.length - n from by omega, List.drop_append_of_le_length (by omega)]
theorem lastN_lastN (l : List Bool) (m n : Nat) (h : m ≤ n) : lastN (lastN l n) m = lastN l m := by
  simp only [lastN, List.length_drop, List.drop_drop]
  congr 1
  omega
theorem lastN_all (l : List Bool) (n : Nat) (h : l.length ≤ n) : lastN l n = l := by
  simp only [lastN]
  rw [show l.length - n = 0 from by omega, List.drop_zero]
def isRule (m w : Int) : Bool := decide ((1 ≤ w ∧ w ≤ 10) ∧ 0 ≤ m ∧ m ≤ w - 1)
theorem isRule_true {m w : Int} (e : isRule m w = true) : 1 ≤ w ∧ w ≤ 10 ∧ 0 ≤ m ∧ m ≤ w - 1 := by
  simp only [isRule, decide_eq_true_eq] at e
  exact ⟨e.1.1, e.1.2, e.2.1, e.2.2⟩
def mayS (m w : Int) (l : List Bool) : Bool := isRule m w && decide ((cnt (lastN l (w - 1).toNat) : Int) < m)
def addDay (l : List Bool) (s : Bool) : List Bool := lastN (l ++ [s]) 10
theorem addDay_length (l : List Bool) (s : Bool) : (addDay l s).length ≤ 10 := by
  rw [addDay, lastN_length]
  omega

/-- From this past on, n calm days end after D days, at worst. -/
inductive WD (m w : Int) : Nat → List Bool → Nat → Prop
  | done (l : List Bool) : WD m w 0 l 0
  | storm (n : Nat) (l : List Bool) (D : Nat) (h : mayS m w l = true) (r : WD m w (n + 1) (l ++ [true]) D) : WD m w (n + 1) l (D + 1)
  | calm (n : Nat) (l : List Bool) (D : Nat) (h : mayS m w l = false) (r : WD m w n (l ++ [false]) D) : WD m w (n + 1) l (D + 1)
/-- The days of storm at the end. -/
def runR : List Bool → Nat
  | [] => 0
  | b :: l => if b then runR l + 1 else 0
def runT (l : List Bool) : Nat := runR l.reverse
theorem runT_true (l : List Bool) : runT (l ++ [true]) = runT l + 1 := by simp [runT, runR]
theorem runT_false (l : List Bool) : runT (l ++ [false]) = 0 := by simp [runT, runR]
theorem runR_take (l : List Bool) : ∀ n, n ≤ runR l → l.take n = List.replicate n true := by
  induction l with
  | nil => intro n h; simp [runR] at h; subst h; rfl
  | cons b l ih =>
    intro n h
    cases n with
    | zero => rfl
    | succ n =>
      cases b with
      | false => simp [runR] at h
      | true =>
        simp only [runR, if_true] at h
        rw [List.take_succ_cons, ih n (by omega), List.replicate_succ]
theorem runR_le (l : List Bool) : runR l ≤ l.length := by
  induction l with
  | nil => simp [runR]
  | cons b l ih => unfold runR; split <;> simp <;> omega
theorem lastN_rev (l : List Bool) (n : Nat) : (lastN l n).reverse = l.reverse.take n := by
  rw [lastN, List.reverse_drop]
  rcases Nat.le_total n l.length with h | h
  · rw [show l.length - (l.length - n) = n from by omega]
  · rw [show l.length - n = 0 from by omega, Nat.sub_zero, List.take_of_length_le (by simp), List.take_of_length_le (by simpa using h)]
theorem cnt_rev (l : List Bool) : cnt l.reverse = cnt l := by simp [cnt, List.filter_reverse]
theorem cnt_rep (n : Nat) : cnt (List.replicate n true) = n := by simp [cnt]
/-- Where w - 1 days of storm lie behind, no storm may come. -/
theorem may_run (m w : Int) (l : List Bool) (h : mayS m w l = true) : (runT l : Int) < w - 1 := by
  simp only [mayS, Bool.and_eq_true, decide_eq_true_eq] at h
  obtain ⟨h1, h2, h3, h4⟩ := isRule_true h.1
  have hc := h.2
  refine Classical.byContradiction fun hn => ?_
  have e : lastN l (w - 1).toNat = (List.replicate (w - 1).toNat true).reverse := by
    rw [← runR_take l.reverse (w - 1).toNat (by unfold runT at hn; omega), ← lastN_rev, List.reverse_reverse]
  rw [e, cnt_rev, cnt_rep] at hc
  omega
theorem wd_ex (m w : Int) (hw : w ≤ 10) : ∀ (M n : Nat) (l : List Bool), n * 11 + (10 - min 10 (runT l)) ≤ M → ∃ D, D ≤ M ∧ WD m w n l D := by
  intro M
  induction M with
  | zero =>
    intro n l hM
    obtain rfl : n = 0 := by omega
    exact ⟨0, by omega, .done l⟩
  | succ M ih =>
    intro n l hM
    cases n with
    | zero => exact ⟨0, by omega, .done l⟩
    | succ n =>
      cases h : mayS m w l with
      | true =>
        have hr := may_run m w l h
        have e := runT_true l
        obtain ⟨D, hD, r⟩ := ih (n + 1) (l ++ [true]) (by omega)
        exact ⟨D + 1, by omega, .storm n l D h r⟩
      | false =>
        have e := runT_false l
        obtain ⟨D, hD, r⟩ := ih n (l ++ [false]) (by omega)
        exact ⟨D + 1, by omega, .calm n l D h r⟩
theorem wd_fun {m w : Int} {n : Nat} {l : List Bool} {D D' : Nat} (r : WD m w n l D) (r' : WD m w n l D') : D = D' := by
  induction r generalizing D' with
  | done l => cases r'; rfl
  | storm n l D h r ih =>
    cases r' with
    | storm _ _ D2 h2 r2 => rw [ih r2]
    | calm _ _ D2 h2 r2 => rw [h] at h2; cases h2
  | calm n l D h r ih =>
    cases r' with
    | storm _ _ D2 h2 r2 => rw [h] at h2; cases h2
    | calm _ _ D2 h2 r2 => rw [ih r2]
theorem may_same {m w : Int} {l q : List Bool} (e : lastN l 10 = lastN q 10) : mayS m w l = mayS m w q := by
  unfold mayS
  cases hR : isRule m w with
  | false => rfl
  | true =>
    obtain ⟨h1, h2, h3, h4⟩ := isRule_true hR
    rw [← lastN_lastN l (w - 1).toNat 10 (by omega), e, lastN_lastN q (w - 1).toNat 10 (by omega)]
theorem same_add {l q : List Bool} (e : lastN l 10 = lastN q 10) (s : Bool) : lastN (l ++ [s]) 10 = lastN (q ++ [s]) 10 := by
  rw [lastN_snoc, lastN_snoc, ← lastN_lastN l 9 10 (by omega), e, lastN_lastN q 9 10 (by omega)]
theorem same_addDay {l q : List Bool} (e : lastN l 10 = lastN q 10) (s : Bool) : lastN (l ++ [s]) 10 = lastN (addDay q s) 10 := by
  rw [addDay, lastN_lastN _ 10 10 (by omega)]
  exact same_add e s
theorem wd_same {m w : Int} {n : Nat} {l : List Bool} {D : Nat} (r : WD m w n l D) : ∀ q, lastN l 10 = lastN q 10 → WD m w n q D := by
  induction r with
  | done l => intro q _; exact .done q
  | storm n l D h r ih => intro q e; exact .storm n q D ((may_same e).symm.trans h) (ih _ (same_add e true))
  | calm n l D h r ih => intro q e; exact .calm n q D ((may_same e).symm.trans h) (ih _ (same_add e false))
/-- What WorstDays returns. -/
def IsWorst (m w : Int) (l : List Bool) (n : Int) (r : Int) : Prop :=
  if isRule m w = true ∧ (0 ≤ n ∧ n ≤ 200) ∧ l.length ≤ 400 then ∃ D : Nat, r = D ∧ D ≤ 3000 ∧ WD m w n.toNat l D else r = -1
theorem worst_ex (m w : Int) (l : List Bool) (n : Int) : ∃ r, IsWorst m w l n r := by
  unfold IsWorst
  by_cases h : isRule m w = true ∧ (0 ≤ n ∧ n ≤ 200) ∧ l.length ≤ 400
  · obtain ⟨h1, h2, h3, h4⟩ := isRule_true h.1
    obtain ⟨D, hD, r⟩ := wd_ex m w h2 2210 n.toNat l (by omega)
    exact ⟨D, by rw [if_pos h]; exact ⟨D, rfl, by omega, r⟩⟩
  · exact ⟨-1, by rw [if_neg h]⟩

theorem impl_last_is (l : List Bool) (n : Int) (h0 : 0 ≤ n) (h1 : n ≤ 1000) (hl : l.length ≤ 17592186044416) : impl_last.f l n = some (lastN l n.toNat) := by
  unfold impl_last.f
  rw [wrapS (by omega) (by omega)]
  have e : mx ((l.length : Int) - n) 0 = ((l.length - n.toNat : Nat) : Int) := by
    unfold mx
    split <;> omega
  rw [e, if_pos (by omega), if_pos (by omega)]
  simp only [lastN, Int.toNat_natCast]

theorem impl_InRange_is (a b c : Int) : impl_InRange.f a b c = some (decide (b ≤ a ∧ a ≤ c)) := by
  unfold impl_InRange.f
  by_cases h : b ≤ a <;> simp [h]

theorem impl_IsRule_is (m w : Int) : impl_IsRule.f m w = some (isRule m w) := by
  unfold impl_IsRule.f
  simp only [impl_InRange_is, Option.bind_some]
  by_cases h : 1 ≤ w ∧ w ≤ 10
  · rw [decide_eq_true h, wrapS (by omega) (by omega)]
    simp [isRule, h]
  · rw [decide_eq_false h]
    simp [isRule, h]

theorem impl_CountStorms_ev (l : List Bool) (hl : l.length ≤ 17592186044416) : Ev (fun k => impl_CountStorms.f k l) (cnt l : Int) := by
  have key : ∀ (d : Nat) (i : Int), 0 ≤ i → i + d = l.length → Ev (fun k => impl_CountStorms.l0 k (cnt (l.take i.toNat) : Int) l (l.length : Int) i) (cnt l : Int) := by
    intro d
    induction d with
    | zero =>
      intro i h0 hi
      refine Ev.step (f := fun _ => some (cnt l : Int)) (fun k => ?_) (Ev.now _)
      simp only [impl_CountStorms.l0]
      rw [if_neg (by omega), List.take_of_length_le (by omega)]
    | succ d ih =>
      intro i h0 hi
      have hc := cnt_le (l.take i.toNat)
      rw [List.length_take] at hc
      refine Ev.step (f := fun k => impl_CountStorms.l0 k (cnt (l.take (i + 1).toNat) : Int) l (l.length : Int) (i + 1)) (fun k => ?_) (ih (i + 1) (by omega) (by omega))
      simp only [impl_CountStorms.l0]
      rw [if_pos (by omega), if_pos h0, if_pos (by omega), take_snoc_rd l i h0 (by omega), cnt_snoc, wrapS (x := i + 1) (by omega) (by omega), wrapS (by omega) (by omega)]
      cases rdOf false l i <;> simp
  exact key l.length 0 (by omega) (by omega)

theorem impl_MayStorm_ev (m w : Int) (l : List Bool) (hl : l.length ≤ 17592186044416) : Ev (fun k => impl_MayStorm.f k m w l) (mayS m w l) := by
  unfold impl_MayStorm.f mayS
  rw [impl_IsRule_is]
  simp only [Option.bind_some]
  cases e : isRule m w with
  | false => simp only [Bool.false_eq_true, if_false, Bool.false_and]; exact Ev.now _
  | true =>
    obtain ⟨h1, h2, h3, h4⟩ := isRule_true e
    have hc := lastN_length l (w - 1).toNat
    simp only [if_true, Bool.true_and]
    rw [wrapS (by omega) (by omega), impl_last_is l (w - 1) (by omega) (by omega) hl]
    simp only [Option.bind_some]
    exact Ev.bind (impl_CountStorms_ev _ (by omega)) (Ev.now _)

theorem impl_AddDay_is (l : List Bool) (s : Bool) (hl : l.length ≤ 70368744177) : impl_AddDay.f l s = some (addDay l s) := by
  unfold impl_AddDay.f
  have h := addDay_length l s
  simp only [Option.bind_some, List.nil_append, List.length_nil]
  rw [if_pos (by omega)]
  try simp only [Option.bind_some]
  rw [if_pos (by omega), impl_last_is (l ++ [s]) 10 (by omega) (by omega) (by simp; omega)]
  try simp only [Option.bind_some]
  have e : lastN (l ++ [s]) (10 : Int).toNat = addDay l s := rfl
  rw [e, if_pos (by omega)]

theorem impl_wd_loop {m w : Int} {n : Nat} {l : List Bool} {D : Nat} (r : WD m w n l D) : n ≤ 200 → ∀ (q : List Bool) (s : Int), lastN l 10 = lastN q 10 → q.length ≤ 1000 → 0 ≤ s → s + D ≤ 1000000 → Ev (fun k => impl_WorstDays.l0 k q (n : Int) s m w) (s + D) := by
  induction r with
  | done l =>
    intro _ q s e hq h0 h1
    refine Ev.step (f := fun _ => some (s + ((0 : Nat) : Int))) (fun k => ?_) (Ev.now _)
    simp only [impl_WorstDays.l0]
    rw [if_neg (by omega)]
    simp
  | storm n l D h r ih =>
    intro hn q s e hq h0 h1
    have hl := addDay_length q true
    have hi := ih hn (addDay q true) (s + 1) (same_addDay e true) (by omega) (by omega) (by omega)
    rw [show s + 1 + (D : Int) = s + ((D + 1 : Nat) : Int) from by omega] at hi
    refine Ev.step (f := fun k => (impl_MayStorm.f k m w q).bind fun t => if t = true then (impl_AddDay.f q t).bind fun t' => impl_WorstDays.l0 k t' ((n + 1 : Nat) : Int) (s + 1) m w else (impl_AddDay.f q t).bind fun t' => impl_WorstDays.l0 k t' (wrap64 (((n + 1 : Nat) : Int) - 1)) (s + 1) m w) (fun k => ?_) (Ev.bind (impl_MayStorm_ev m w q (by omega)) ?_)
    · simp only [impl_WorstDays.l0]
      rw [if_pos (by omega), wrapS (x := s + 1) (by omega) (by omega)]
    · rw [← may_same e, h]
      simp only [if_true, impl_AddDay_is q true (by omega), Option.bind_some]
      exact hi
  | calm n l D h r ih =>
    intro hn q s e hq h0 h1
    have hl := addDay_length q false
    have hi := ih (by omega) (addDay q false) (s + 1) (same_addDay e false) (by omega) (by omega) (by omega)
    rw [show s + 1 + (D : Int) = s + ((D + 1 : Nat) : Int) from by omega] at hi
    refine Ev.step (f := fun k => (impl_MayStorm.f k m w q).bind fun t => if t = true then (impl_AddDay.f q t).bind fun t' => impl_WorstDays.l0 k t' ((n + 1 : Nat) : Int) (s + 1) m w else (impl_AddDay.f q t).bind fun t' => impl_WorstDays.l0 k t' (n : Int) (s + 1) m w) (fun k => ?_) (Ev.bind (impl_MayStorm_ev m w q (by omega)) ?_)
    · simp only [impl_WorstDays.l0]
      rw [if_pos (by omega), wrapS (x := s + 1) (by omega) (by omega), wrapS (x := ((n + 1 : Nat) : Int) - 1) (by omega) (by omega), show ((n + 1 : Nat) : Int) - 1 = (n : Int) from by omega]
    · rw [← may_same e, h]
      simp only [Bool.false_eq_true, if_false, impl_AddDay_is q false (by omega), Option.bind_some]
      exact hi
theorem impl_WorstDays_ev (m w : Int) (l : List Bool) (n : Int) (r : Int) (h : IsWorst m w l n r) : Ev (fun k => impl_WorstDays.f k m w l n) r := by
  unfold IsWorst at h
  have jt : Ev (fun k => impl_WorstDays.j0 k l n true m w) (-1) := by
    refine Ev.step (f := fun _ => some (-1)) (fun k => ?_) (Ev.now _)
    simp only [impl_WorstDays.j0, if_true]
  unfold impl_WorstDays.f
  rw [impl_IsRule_is]
  simp only [Option.bind_some, impl_InRange_is]
  cases e : isRule m w with
  | false =>
    rw [if_neg (by simp [e])] at h
    subst h
    simp only [Bool.false_eq_true, if_false]
    exact jt
  | true =>
    simp only [if_true]
    by_cases c : 0 ≤ n ∧ n ≤ 200
    · simp only [decide_eq_true c, if_true]
      by_cases c2 : l.length ≤ 400
      · rw [if_pos ⟨e, c, c2⟩] at h
        obtain ⟨D, rfl, hD, hr⟩ := h
        rw [show decide ((l.length : Int) > 400) = false from decide_eq_false (by omega)]
        have h := impl_wd_loop hr (by omega) l 0 rfl (by omega) (by omega) (by omega)
        rw [show ((n.toNat : Nat) : Int) = n from by omega, Int.zero_add] at h
        refine Ev.step (f := fun k => impl_WorstDays.l0 k l n 0 m w) (fun k => ?_) h
        simp only [impl_WorstDays.j0, Bool.false_eq_true, if_false]
      · rw [if_neg (by omega)] at h
        subst h
        rw [show decide ((l.length : Int) > 400) = true from decide_eq_true (by omega)]
        exact jt
    · rw [if_neg (fun h => c h.2.1)] at h
      subst h
      simp only [decide_eq_false c, Bool.false_eq_true, if_false]
      exact jt

theorem spec_Max_is (x : Int) : spec_Max.f 0 x = some (if 0 < x then x else 0) := by
  unfold spec_Max.f
  by_cases h : x > 0
  · rw [if_pos h, if_pos h]
  · rw [if_neg h, if_neg (by omega)]

theorem spec_l1In_is (a b c : Int) : spec_l1In.f a b c = some (decide (b ≤ a ∧ a ≤ c)) := by
  unfold spec_l1In.f
  by_cases h : b ≤ a <;> simp [h]

theorem spec_IsRule_is (m w : Int) : spec_IsRule.f m w = some (isRule m w) := by
  unfold spec_IsRule.f
  simp only [spec_l1In_is, Option.bind_some]
  by_cases h : 1 ≤ w ∧ w ≤ 10
  · rw [decide_eq_true h, wrapS (by omega) (by omega)]
    simp [isRule, h]
  · rw [decide_eq_false h]
    simp [isRule, h]

theorem spec_CountStorms_ev (l : List Bool) (hl : l.length ≤ 17592186044416) : Ev (fun k => spec_CountStorms.f k l) (cnt l : Int) := by
  have key : ∀ (d : Nat) (i : Int), 0 ≤ i → i + d = l.length → Ev (fun k => spec_CountStorms.l0 k l (cnt (l.take i.toNat) : Int) i) (cnt l : Int) := by
    intro d
    induction d with
    | zero =>
      intro i h0 hi
      refine Ev.step (f := fun _ => some (cnt l : Int)) (fun k => ?_) (Ev.now _)
      simp only [spec_CountStorms.l0]
      rw [if_neg (by omega), List.take_of_length_le (by omega)]
    | succ d ih =>
      intro i h0 hi
      have hc := cnt_le (l.take i.toNat)
      rw [List.length_take] at hc
      refine Ev.step (f := fun k => spec_CountStorms.l0 k l (cnt (l.take (i + 1).toNat) : Int) (i + 1)) (fun k => ?_) (ih (i + 1) (by omega) (by omega))
      simp only [spec_CountStorms.l0]
      rw [if_pos (by omega), if_pos h0, take_snoc_rd l i h0 (by omega), cnt_snoc, wrapS (x := i + 1) (by omega) (by omega), wrapS (by omega) (by omega)]
      cases rdOf false l i <;> simp
  exact key l.length 0 (by omega) (by omega)

theorem spec_MayStorm_ev (m w : Int) (l : List Bool) (hl : l.length ≤ 17592186044416) : Ev (fun k => spec_MayStorm.f k m w l) (mayS m w l) := by
  unfold spec_MayStorm.f mayS
  rw [spec_IsRule_is]
  simp only [Option.bind_some]
  cases e : isRule m w with
  | false => simp only [Bool.false_eq_true, if_false, Bool.false_and]; exact Ev.now _
  | true =>
    obtain ⟨h1, h2, h3, h4⟩ := isRule_true e
    have hc := lastN_length l (w - 1).toNat
    simp only [if_true, Bool.true_and]
    rw [wrapS (x := (l.length : Int) + 1) (by omega) (by omega), wrapS (by omega) (by omega), spec_Max_is]
    simp only [Option.bind_some]
    have e : (if (0 : Int) < (l.length : Int) + 1 - w then (l.length : Int) + 1 - w else 0) = ((l.length - (w - 1).toNat : Nat) : Int) := by
      split <;> omega
    rw [e]
    simp only [if_pos (show (0 : Int) ≤ ((l.length - (w - 1).toNat : Nat) : Int) from by omega), if_pos (show ((l.length - (w - 1).toNat : Nat) : Int) ≤ (l.length : Int) from by omega), Int.toNat_natCast]
    exact Ev.bind (spec_CountStorms_ev (lastN l (w - 1).toNat) (by omega)) (Ev.now _)

theorem spec_wd_loop {m w : Int} {n : Nat} {l : List Bool} {D : Nat} (r : WD m w n l D) : n ≤ 200 → ∀ (x : List Bool), l.length + D ≤ 1000000 → x.length ≤ 1000000 → Ev (fun k => spec_WorstDays.l0 k x (n : Int) l m w) (((l.length + D : Nat) : Int) - x.length) := by
  induction r with
  | done l =>
    intro _ x h0 h1
    refine Ev.step (f := fun _ => some (((l.length + 0 : Nat) : Int) - x.length)) (fun k => ?_) (Ev.now _)
    simp only [spec_WorstDays.l0]
    rw [if_neg (by omega), wrapS (by omega) (by omega)]
    simp
  | storm n l D h r ih =>
    intro hn x h0 h1
    have hlen : (l ++ [true]).length = l.length + 1 := by simp
    have hi := ih hn x (by omega) h1
    rw [show (l ++ [true]).length + D = l.length + (D + 1) from by omega] at hi
    refine Ev.step (f := fun k => (spec_MayStorm.f k m w l).bind fun t => if t = true then spec_WorstDays.l0 k x ((n + 1 : Nat) : Int) (l ++ [t]) m w else spec_WorstDays.l0 k x (wrap64 (((n + 1 : Nat) : Int) - 1)) (l ++ [t]) m w) (fun k => ?_) (Ev.bind (spec_MayStorm_ev m w l (by omega)) ?_)
    · simp only [spec_WorstDays.l0, Option.bind_some]
      rw [if_pos (by omega)]
      simp only [if_pos (show l.length < 140737488355328 from by omega)]
    · rw [h]
      simp only [if_true]
      exact hi
  | calm n l D h r ih =>
    intro hn x h0 h1
    have hlen : (l ++ [false]).length = l.length + 1 := by simp
    have hi := ih (by omega) x (by omega) h1
    rw [show (l ++ [false]).length + D = l.length + (D + 1) from by omega] at hi
    refine Ev.step (f := fun k => (spec_MayStorm.f k m w l).bind fun t => if t = true then spec_WorstDays.l0 k x ((n + 1 : Nat) : Int) (l ++ [t]) m w else spec_WorstDays.l0 k x (n : Int) (l ++ [t]) m w) (fun k => ?_) (Ev.bind (spec_MayStorm_ev m w l (by omega)) ?_)
    · simp only [spec_WorstDays.l0, Option.bind_some]
      rw [if_pos (by omega), wrapS (x := ((n + 1 : Nat) : Int) - 1) (by omega) (by omega), show ((n + 1 : Nat) : Int) - 1 = (n : Int) from by omega]
      simp only [if_pos (show l.length < 140737488355328 from by omega)]
    · rw [h]
      simp only [Bool.false_eq_true, if_false]
      exact hi
theorem spec_WorstDays_ev (m w : Int) (l : List Bool) (n : Int) (r : Int) (hl : l.length ≤ 1048576) (h : IsWorst m w l n r) : Ev (fun k => spec_WorstDays.f k m w l n) r := by
  unfold IsWorst at h
  have jt : Ev (fun k => spec_WorstDays.j0 k l n true m w) (-1) := by
    refine Ev.step (f := fun _ => some (-1)) (fun k => ?_) (Ev.now _)
    simp only [spec_WorstDays.j0, if_true]
  unfold spec_WorstDays.f
  rw [spec_IsRule_is]
  simp only [Option.bind_some, spec_l1In_is]
  cases e : isRule m w with
  | false =>
    rw [if_neg (by simp [e])] at h
    subst h
    simp only [Bool.false_eq_true, if_false]
    exact jt
  | true =>
    simp only [if_true]
    by_cases c : 0 ≤ n ∧ n ≤ 200
    · simp only [decide_eq_true c, if_true]
      by_cases c2 : l.length ≤ 400
      · rw [if_pos ⟨e, c, c2⟩] at h
        obtain ⟨D, rfl, hD, hr⟩ := h
        rw [show decide ((l.length : Int) > 400) = false from decide_eq_false (by omega)]
        have h := spec_wd_loop hr (by omega) l (by omega) (by omega)
        rw [show ((n.toNat : Nat) : Int) = n from by omega, show ((l.length + D : Nat) : Int) - (l.length : Int) = (D : Int) from by omega] at h
        refine Ev.step (f := fun k => spec_WorstDays.l0 k l n l m w) (fun k => ?_) h
        simp only [spec_WorstDays.j0, Bool.false_eq_true, if_false, Option.bind_some, List.nil_append, List.length_nil]
        rw [if_pos (by omega)]
      · rw [if_neg (by omega)] at h
        subst h
        rw [show decide ((l.length : Int) > 400) = true from decide_eq_true (by omega)]
        exact jt
    · rw [if_neg (fun h => c h.2.1)] at h
      subst h
      simp only [decide_eq_false c, Bool.false_eq_true, if_false]
      exact jt

theorem laws_toBoolS_ev (l : List Bool) (hl : l.length ≤ 17592186044416) : Ev (fun k => laws_toBoolS.f k l) l := by
  have key : ∀ (d : Nat) (o : List Bool) (i : Int), 0 ≤ i → o.length = l.length → i + d = l.length → o.take i.toNat = l.take i.toNat → Ev (fun k => laws_toBoolS.l0 k l o i) l := by
    intro d
    induction d with
    | zero =>
      intro o i h0 ho hi ht
      refine Ev.step (f := fun _ => some l) (fun k => ?_) (Ev.now _)
      simp only [laws_toBoolS.l0]
      rw [if_neg (by omega), take_all i.toNat ho (by omega) ht]
    | succ d ih =>
      intro o i h0 ho hi ht
      refine Ev.step (f := fun k => laws_toBoolS.l0 k l (o.set i.toNat (rdOf false l i)) (i + 1)) (fun k => ?_) (ih _ _ (by omega) (by simpa using ho) (by omega) ?_)
      · simp only [laws_toBoolS.l0]
        rw [if_pos (by omega), if_pos h0, if_pos (by omega), wrapS (by omega) (by omega)]
      · rw [show (i + 1).toNat = i.toNat + 1 from by omega]
        exact set_take_succ _ o l i.toNat ho (by omega) ht
  refine Ev.congr (f := fun k => laws_toBoolS.l0 k l (List.replicate l.length false) 0) (fun k => ?_) (key l.length _ 0 (by omega) (by simp) (by omega) (by simp))
  unfold laws_toBoolS.f
  rw [if_pos (by omega), if_pos (by omega)]
  rfl

theorem laws_eqBoolS_ev (l : List Bool) (hl : l.length ≤ 281474976710656) : Ev (fun k => laws_eqBoolS.f k l l) true := by
  have key : ∀ (d : Nat) (i : Int), 0 ≤ i → i + d = l.length → Ev (fun k => laws_eqBoolS.l0 k l l i) true := by
    intro d
    induction d with
    | zero =>
      intro i h0 hi
      refine Ev.step (f := fun _ => some true) (fun k => ?_) (Ev.now _)
      simp only [laws_eqBoolS.l0]
      rw [if_neg (by omega)]
    | succ d ih =>
      intro i h0 hi
      refine Ev.step (f := fun k => laws_eqBoolS.l0 k l l (i + 1)) (fun k => ?_) (ih _ (by omega) (by omega))
      simp only [laws_eqBoolS.l0]
      rw [if_pos (by omega), if_pos h0, if_pos (by omega), wrapS (by omega) (by omega)]
      simp
  refine Ev.congr (f := fun k => laws_eqBoolS.l0 k l l 0) (fun k => ?_) (key l.length 0 (by omega) (by omega))
  unfold laws_eqBoolS.f
  rw [if_pos rfl]



theorem FnExactWorstDays (m w : Int) (l : List Bool) (n : Int) (_ : (Lit.int .i64 m).wf = true) (_ : (Lit.int .i64 w).wf = true) (_ : (Lit.int .i64 n).wf = true) : ∃ k, laws_FnExactWorstDays.f k m w l n = some true := by
  apply Ev.rounds
  unfold laws_FnExactWorstDays.f laws_toRule.f
  by_cases h1 : (l.length : Int) > 1048576
  · simp only [if_pos h1]; exact Ev.now _
  obtain ⟨r, hr⟩ := worst_ex m w l n
  simp only [if_neg h1, Option.bind_some]
  refine Ev.bind (laws_toBoolS_ev l (by omega)) ?_
  refine Ev.bind (spec_WorstDays_ev m w l n r (by omega) hr) ?_
  refine Ev.bind (laws_toBoolS_ev l (by omega)) ?_
  refine Ev.bind (impl_WorstDays_ev m w l n r hr) ?_
  simp only [if_true, if_false, Bool.false_eq_true, Bool.not_true, Bool.not_false, bne_self_eq_false, eq_self, ite_true, ite_false, reduceIte]
  refine Ev.bind (laws_toBoolS_ev l (by omega)) ?_
  refine Ev.bind (laws_eqBoolS_ev l (by omega)) ?_
  simp only [if_true, if_false, Bool.false_eq_true, Bool.not_true, Bool.not_false, bne_self_eq_false, eq_self, ite_true, ite_false, reduceIte]
  exact Ev.now _

end Go.Proofs.Ytoafabcopihniaa.Pure
