/- FnStorms answers true, for each list of bytes. -/
import Derived.Test.YtoafabcopihniaaQFnStormsx8
import Derived.Test.YtoafabcopihniaaWSized
set_option linter.unusedVariables false
set_option linter.unusedSimpArgs false
namespace Go.Proofs.Ytoafabcopihniaa.PrintWords
open Go.ChangeShapes Go.WideShapes
/-- The printed row names the word so; it lies one namespace beside. -/
theorem sized_ints {H : Type} {enc : TypeId × Value → H} {P : Program} {W : World} {base : Nat} {spare : Nat → Bool} {held : Bool} {t e : TypeId} {k : IntKind} {a : Option Addr} {len cap : Nat} {d : DataW H} {ps : List MemPlace} {ts : List TypeId} {ds : List (DataW H)} {j : Nat}
    (hsz : (DataW.weightsEach P ts ds).all (· ≤ reachBytes) = true) (ht : ts[j]? = some t) (hd : ds[j]? = some d) (hu : P.underlying t = some (.slice e)) (he : P.underlying e = some (.int k)) (hc : P.cellsOf e = 1) {B : Nat} (hB : P.bytesOf e = B)
    (h : DataW.Trod enc P W base spare held t (.slice a len cap) d ps) : len * B ≤ 140737488351232 :=
  Go.Proofs.YtoafabcopihniaaW.PrintWords.sized_ints hsz ht hd hu he hc hB h
end Go.Proofs.Ytoafabcopihniaa.PrintWords
namespace Go.Proofs.Ytoafabcopihniaa.Pure
open Go.RowKit Go.Proofs.Ytoafabcopihniaa.QFnStorms Go.Proofs.YtoafabcopihniaaW.PrintWords Go.Proofs.YtoafabcopihniaaW.PrintLast Go.Proofs.YtoafabcopihniaaW.PrintMore

theorem wrapS {x : Int} (h1 : -9223372036854775808 ≤ x) (h2 : x ≤ 9223372036854775807) : wrap64 x = x := by
  unfold wrap64
  omega
theorem i64wf {x : Int} (h : (Lit.int .i64 x).wf = true) : -9223372036854775808 ≤ x ∧ x ≤ 9223372036854775807 := by
  have h1 : (decide (IntKind.i64.min ≤ x) && decide (x ≤ IntKind.i64.max)) = true := h
  rw [Bool.and_eq_true, decide_eq_true_eq, decide_eq_true_eq] at h1
  exact h1
theorem u8wf {x : Int} (h : (Lit.int .u8 x).wf = true) : 0 ≤ x ∧ x ≤ 255 := by
  have h1 : (decide (IntKind.u8.min ≤ x) && decide (x ≤ IntKind.u8.max)) = true := h
  rw [Bool.and_eq_true, decide_eq_true_eq, decide_eq_true_eq] at h1
  exact h1
/-- What is told of some number of rounds is told of any three together. -/
theorem evNow {α : Type} {g : Option α} {r : α} (h : g = some r) : Ev (fun _ => g) r := ⟨0, fun _ _ => h⟩
theorem one_add_neg (n : Nat) : ((1 : Int) + (n : Int) < 0) = False := by
  simp only [eq_iff_iff, iff_false]
  omega

theorem set_take_succ {α : Type} (d : α) (o l : List α) (n : Nat) (ho : o.length = l.length) (hn : n < l.length) (ht : o.take n = l.take n) : (o.set n (l.getD n d)).take (n + 1) = l.take (n + 1) := by
  apply List.ext_getElem?
  intro j
  have hj := congrArg (fun t => t[j]?) ht
  simp only [List.getElem?_take] at hj ⊢
  by_cases h1 : j < n
  · rw [if_pos h1, if_pos h1] at hj
    rw [if_pos (by omega), if_pos (by omega), List.getElem?_set_ne (by omega)]
    exact hj
  · by_cases h2 : j = n
    · subst h2
      rw [if_pos (by omega), if_pos (by omega), List.getElem?_set_self (by omega), List.getElem?_eq_getElem hn, List.getD_eq_getElem?_getD, List.getElem?_eq_getElem hn]
      rfl
    · rw [if_neg (by omega), if_neg (by omega)]
theorem take_all {α : Type} {o l : List α} (n : Nat) (ho : o.length = l.length) (hn : l.length ≤ n) (ht : o.take n = l.take n) : o = l := by
  rw [List.take_of_length_le (by omega), List.take_of_length_le (by omega)] at ht
  exact ht

def cnt (l : List Bool) : Nat := (l.filter id).length
theorem cnt_le (l : List Bool) : cnt l ≤ l.length := List.length_filter_le _ _
theorem cnt_append (a b : List Bool) : cnt (a ++ b) = cnt a + cnt b := by simp [cnt]
theorem cnt_snoc (l : List Bool) (b : Bool) : cnt (l ++ [b]) = cnt l + if b then 1 else 0 := by
  rw [cnt_append]
  cases b <;> simp [cnt]
theorem take_snoc_rd (l : List Bool) (i : Int) (h0 : 0 ≤ i) (h1 : i < l.length) : l.take (i + 1).toNat = l.take i.toNat ++ [rdOf false l i] := by
  rw [show (i + 1).toNat = i.toNat + 1 from by omega, List.take_succ_eq_append_getElem (by omega)]
  congr 1
  simp [rdOf, List.getD_eq_getElem?_getD, List.getElem?_eq_getElem (show i.toNat < l.length by omega)]

def lastN (l : List Bool) (n : Nat) : List Bool := l.drop (l.length - n)
theorem lastN_length (l : List Bool) (n : Nat) : (lastN l n).length = min l.length n := by
  simp only [lastN, List.length_drop]
  omega
theorem lastN_snoc (l : List Bool) (s : Bool) (n : Nat) : lastN (l ++ [s]) (n + 1) = lastN l n ++ [s] := by
  simp only [lastN, List.length_append, List.length_cons, List.length_nil]
  rw [show l.length + (0 + 1) - (n + 1) = l.length - n from by omega, List.drop_append_of_le_length (by omega)]
theorem lastN_lastN (l : List Bool) (m n : Nat) (h : m ≤ n) : lastN (lastN l n) m = lastN l m := by
  simp only [lastN, List.length_drop, List.drop_drop]
  congr 1
  omega
theorem lastN_all (l : List Bool) (n : Nat) (h : l.length ≤ n) : lastN l n = l := by
  simp only [lastN]
  rw [show l.length - n = 0 from by omega, List.drop_zero]
def isRule (m w : Int) : Bool := decide ((1 ≤ w ∧ w ≤ 10) ∧ 0 ≤ m ∧ m ≤ w - 1)
theorem isRule_true {m w : Int} (e : isRule m w = true) : 1 ≤ w ∧ w ≤ 10 ∧ 0 ≤ m ∧ m ≤ w - 1 := by
  simp only [isRule, decide_eq_true_eq] at e
  exact ⟨e.1.1, e.1.2, e.2.1, e.2.2⟩
def mayS (m w : Int) (l : List Bool) : Bool := isRule m w && decide ((cnt (lastN l (w - 1).toNat) : Int) < m)
def addDay (l : List Bool) (s : Bool) : List Bool := lastN (l ++ [s]) 10
theorem addDay_length (l : List Bool) (s : Bool) : (addDay l s).length ≤ 10 := by
  rw [addDay, lastN_length]
  omega

/-- From this past on, n calm days end after D days, at worst. -/
inductive WD (m w : Int) : Nat → List Bool → Nat → Prop
  | done (l : List Bool) : WD m w 0 l 0
  | storm (n : Nat) (l : List Bool) (D : Nat) (h : mayS m w l = true) (r : WD m w (n + 1) (l ++ [true]) D) : WD m w (n + 1) l (D + 1)
  | calm (n : Nat) (l : List Bool) (D : Nat) (h : mayS m w l = false) (r : WD m w n (l ++ [false]) D) : WD m w (n + 1) l (D + 1)
/-- The days of storm at the end. -/
def runR : List Bool → Nat
  | [] => 0
  | b :: l => if b then runR l + 1 else 0
def runT (l : List Bool) : Nat := runR l.reverse
theorem runT_true (l : List Bool) : runT (l ++ [true]) = runT l + 1 := by simp [runT, runR]
theorem runT_false (l : List Bool) : runT (l ++ [false]) = 0 := by simp [runT, runR]
theorem runR_take (l : List Bool) : ∀ n, n ≤ runR l → l.take n = List.replicate n true := by
  induction l with
  | nil => intro n h; simp [runR] at h; subst h; rfl
  | cons b l ih =>
    intro n h
    cases n with
    | zero => rfl
    | succ n =>
      cases b with
      | false => simp [runR] at h
      | true =>
        simp only [runR, if_true] at h
        rw [List.take_succ_cons, ih n (by omega), List.replicate_succ]
theorem runR_le (l : List Bool) : runR l ≤ l.length := by
  induction l with
  | nil => simp [runR]
  | cons b l ih => unfold runR; split <;> simp <;> omega
theorem lastN_rev (l : List Bool) (n : Nat) : (lastN l n).reverse = l.reverse.take n := by
  rw [lastN, List.reverse_drop]
  rcases Nat.le_total n l.length with h | h
  · rw [show l.length - (l.length - n) = n from by omega]
  · rw [show l.length - n = 0 from by omega, Nat.sub_zero, List.take_of_length_le (by simp), List.take_of_length_le (by simpa using h)]
theorem cnt_rev (l : List Bool) : cnt l.reverse = cnt l := by simp [cnt, List.filter_reverse]
theorem cnt_rep (n : Nat) : cnt (List.replicate n true) = n := by simp [cnt]
/-- Where w - 1 days of storm lie behind, no storm may come. -/
theorem may_run (m w : Int) (l : List Bool) (h : mayS m w l = true) : (runT l : Int) < w - 1 := by
  simp only [mayS, Bool.and_eq_true, decide_eq_true_eq] at h
  obtain ⟨h1, h2, h3, h4⟩ := isRule_true h.1
  have hc := h.2
  refine Classical.byContradiction fun hn => ?_
  have e : lastN l (w - 1).toNat = (List.replicate (w - 1).toNat true).reverse := by
    rw [← runR_take l.reverse (w - 1).toNat (by unfold runT at hn; omega), ← lastN_rev, List.reverse_reverse]
  rw [e, cnt_rev, cnt_rep] at hc
  omega
theorem wd_ex (m w : Int) (hw : w ≤ 10) : ∀ (M n : Nat) (l : List Bool), n * 11 + (10 - min 10 (runT l)) ≤ M → ∃ D, D ≤ M ∧ WD m w n l D := by
  intro M
  induction M with
  | zero =>
    intro n l hM
    obtain rfl : n = 0 := by omega
    exact ⟨0, by omega, .done l⟩
  | succ M ih =>
    intro n l hM
    cases n with
    | zero => exact ⟨0, by omega, .done l⟩
    | succ n =>
      cases h : mayS m w l with
      | true =>
        have hr := may_run m w l h
        have e := runT_true l
        obtain ⟨D, hD, r⟩ := ih (n + 1) (l ++ [true]) (by omega)
        exact ⟨D + 1, by omega, .storm n l D h r⟩
      | false =>
        have e := runT_false l
        obtain ⟨D, hD, r⟩ := ih n (l ++ [false]) (by omega)
        exact ⟨D + 1, by omega, .calm n l D h r⟩
theorem wd_fun {m w : Int} {n : Nat} {l : List Bool} {D D' : Nat} (r : WD m w n l D) (r' : WD m w n l D') : D = D' := by
  induction r generalizing D' with
  | done l => cases r'; rfl
  | storm n l D h r ih =>
    cases r' with
    | storm _ _ D2 h2 r2 => rw [ih r2]
    | calm _ _ D2 h2 r2 => rw [h] at h2; cases h2
  | calm n l D h r ih =>
    cases r' with
    | storm _ _ D2 h2 r2 => rw [h] at h2; cases h2
    | calm _ _ D2 h2 r2 => rw [ih r2]
theorem may_same {m w : Int} {l q : List Bool} (e : lastN l 10 = lastN q 10) : mayS m w l = mayS m w q := by
  unfold mayS
  cases hR : isRule m w with
  | false => rfl
  | true =>
    obtain ⟨h1, h2, h3, h4⟩ := isRule_true hR
    rw [← lastN_lastN l (w - 1).toNat 10 (by omega), e, lastN_lastN q (w - 1).toNat 10 (by omega)]
theorem same_add {l q : List Bool} (e : lastN l 10 = lastN q 10) (s : Bool) : lastN (l ++ [s]) 10 = lastN (q ++ [s]) 10 := by
  rw [lastN_snoc, lastN_snoc, ← lastN_lastN l 9 10 (by omega), e, lastN_lastN q 9 10 (by omega)]
theorem same_addDay {l q : List Bool} (e : lastN l 10 = lastN q 10) (s : Bool) : lastN (l ++ [s]) 10 = lastN (addDay q s) 10 := by
  rw [addDay, lastN_lastN _ 10 10 (by omega)]
  exact same_add e s
theorem wd_same {m w : Int} {n : Nat} {l : List Bool} {D : Nat} (r : WD m w n l D) : ∀ q, lastN l 10 = lastN q 10 → WD m w n q D := by
  induction r with
  | done l => intro q _; exact .done q
  | storm n l D h r ih => intro q e; exact .storm n q D ((may_same e).symm.trans h) (ih _ (same_add e true))
  | calm n l D h r ih => intro q e; exact .calm n q D ((may_same e).symm.trans h) (ih _ (same_add e false))
/-- What WorstDays returns. -/
def IsWorst (m w : Int) (l : List Bool) (n : Int) (r : Int) : Prop :=
  if isRule m w = true ∧ (0 ≤ n ∧ n ≤ 200) ∧ l.length ≤ 400 then ∃ D : Nat, r = D ∧ D ≤ 3000 ∧ WD m w n.toNat l D else r = -1
theorem worst_ex (m w : Int) (l : List Bool) (n : Int) : ∃ r, IsWorst m w l n r := by
  unfold IsWorst
  by_cases h : isRule m w = true ∧ (0 ≤ n ∧ n ≤ 200) ∧ l.length ≤ 400
  · obtain ⟨h1, h2, h3, h4⟩ := isRule_true h.1
    obtain ⟨D, hD, r⟩ := wd_ex m w h2 2210 n.toNat l (by omega)
    exact ⟨D, by rw [if_pos h]; exact ⟨D, rfl, by omega, r⟩⟩
  · exact ⟨-1, by rw [if_neg h]⟩

theorem impl_last_is (l : List Bool) (n : Int) (h0 : 0 ≤ n) (h1 : n ≤ 1000) (hl : l.length ≤ 17592186044416) : impl_last.f l n = some (lastN l n.toNat) := by
  unfold impl_last.f
  rw [wrapS (by omega) (by omega)]
  have e : mx ((l.length : Int) - n) 0 = ((l.length - n.toNat : Nat) : Int) := by
    unfold mx
    split <;> omega
  rw [e, if_pos (by omega), if_pos (by omega)]
  simp only [lastN, Int.toNat_natCast]

theorem impl_InRange_is (a b c : Int) : impl_InRange.f a b c = some (decide (b ≤ a ∧ a ≤ c)) := by
  unfold impl_InRange.f
  by_cases h : b ≤ a <;> simp [h]

theorem impl_IsRule_is (m w : Int) : impl_IsRule.f m w = some (isRule m w) := by
  unfold impl_IsRule.f
  simp only [impl_InRange_is, Option.bind_some]
  by_cases h : 1 ≤ w ∧ w ≤ 10
  · rw [decide_eq_true h, wrapS (by omega) (by omega)]
    simp [isRule, h]
  · rw [decide_eq_false h]
    simp [isRule, h]

theorem impl_CountStorms_ev (l : List Bool) (hl : l.length ≤ 17592186044416) : Ev (fun k => impl_CountStorms.f k l) (cnt l : Int) := by
  have key : ∀ (d : Nat) (i : Int), 0 ≤ i → i + d = l.length → Ev (fun k => impl_CountStorms.l0 k (cnt (l.take i.toNat) : Int) l (l.length : Int) i) (cnt l : Int) := by
    intro d
    induction d with
    | zero =>
      intro i h0 hi
      refine Ev.step (f := fun _ => some (cnt l : Int)) (fun k => ?_) (Ev.now _)
      simp only [impl_CountStorms.l0]
      rw [if_neg (by omega), List.take_of_length_le (by omega)]
    | succ d ih =>
      intro i h0 hi
      have hc := cnt_le (l.take i.toNat)
      rw [List.length_take] at hc
      refine Ev.step (f := fun k => impl_CountStorms.l0 k (cnt (l.take (i + 1).toNat) : Int) l (l.length : Int) (i + 1)) (fun k => ?_) (ih (i + 1) (by omega) (by omega))
      simp only [impl_CountStorms.l0]
      rw [if_pos (by omega), if_pos h0, if_pos (by omega), take_snoc_rd l i h0 (by omega), cnt_snoc, wrapS (x := i + 1) (by omega) (by omega), wrapS (by omega) (by omega)]
      cases rdOf false l i <;> simp
  exact key l.length 0 (by omega) (by omega)

theorem impl_MayStorm_ev (m w : Int) (l : List Bool) (hl : l.length ≤ 17592186044416) : Ev (fun k => impl_MayStorm.f k m w l) (mayS m w l) := by
  unfold impl_MayStorm.f mayS
  rw [impl_IsRule_is]
  simp only [Option.bind_some]
  cases e : isRule m w with
  | false => simp only [Bool.false_eq_true, if_false, Bool.false_and]; exact Ev.now _
  | true =>
    obtain ⟨h1, h2, h3, h4⟩ := isRule_true e
    have hc := lastN_length l (w - 1).toNat
    simp only [if_true, Bool.true_and]
    rw [wrapS (by omega) (by omega), impl_last_is l (w - 1) (by omega) (by omega) hl]
    simp only [Option.bind_some]
    exact Ev.bind (impl_CountStorms_ev _ (by omega)) (Ev.now _)

theorem impl_AddDay_is (l : List Bool) (s : Bool) (hl : l.length ≤ 70368744177) : impl_AddDay.f l s = some (addDay l s) := by
  unfold impl_AddDay.f
  have h := addDay_length l s
  simp only [Option.bind_some, List.nil_append, List.length_nil]
  rw [if_pos (by omega)]
  try simp only [Option.bind_some]
  rw [if_pos (by omega), impl_last_is (l ++ [s]) 10 (by omega) (by omega) (by simp; omega)]
  try simp only [Option.bind_some]
  have e : lastN (l ++ [s]) (10 : Int).toNat = addDay l s := rfl
  rw [e, if_pos (by omega)]

theorem impl_wd_loop {m w : Int} {n : Nat} {l : List Bool} {D : Nat} (r : WD m w n l D) : n ≤ 200 → ∀ (q : List Bool) (s : Int), lastN l 10 = lastN q 10 → q.length ≤ 1000 → 0 ≤ s → s + D ≤ 1000000 → Ev (fun k => impl_WorstDays.l0 k q (n : Int) s m w) (s + D) := by
  induction r with
  | done l =>
    intro _ q s e hq h0 h1
    refine Ev.step (f := fun _ => some (s + ((0 : Nat) : Int))) (fun k => ?_) (Ev.now _)
    simp only [impl_WorstDays.l0]
    rw [if_neg (by omega)]
    simp
  | storm n l D h r ih =>
    intro hn q s e hq h0 h1
    have hl := addDay_length q true
    have hi := ih hn (addDay q true) (s + 1) (same_addDay e true) (by omega) (by omega) (by omega)
    rw [show s + 1 + (D : Int) = s + ((D + 1 : Nat) : Int) from by omega] at hi
    refine Ev.step (f := fun k => (impl_MayStorm.f k m w q).bind fun t => if t = true then (impl_AddDay.f q t).bind fun t' => impl_WorstDays.l0 k t' ((n + 1 : Nat) : Int) (s + 1) m w else (impl_AddDay.f q t).bind fun t' => impl_WorstDays.l0 k t' (wrap64 (((n + 1 : Nat) : Int) - 1)) (s + 1) m w) (fun k => ?_) (Ev.bind (impl_MayStorm_ev m w q (by omega)) ?_)
    · simp only [impl_WorstDays.l0]
      rw [if_pos (by omega), wrapS (x := s + 1) (by omega) (by omega)]
    · rw [← may_same e, h]
      simp only [if_true, impl_AddDay_is q true (by omega), Option.bind_some]
      exact hi
  | calm n l D h r ih =>
    intro hn q s e hq h0 h1
    have hl := addDay_length q false
    have hi := ih (by omega) (addDay q false) (s + 1) (same_addDay e false) (by omega) (by omega) (by omega)
    rw [show s + 1 + (D : Int) = s + ((D + 1 : Nat) : Int) from by omega] at hi
    refine Ev.step (f := fun k => (impl_MayStorm.f k m w q).bind fun t => if t = true then (impl_AddDay.f q t).bind fun t' => impl_WorstDays.l0 k t' ((n + 1 : Nat) : Int) (s + 1) m w else (impl_AddDay.f q t).bind fun t' => impl_WorstDays.l0 k t' (n : Int) (s + 1) m w) (fun k => ?_) (Ev.bind (impl_MayStorm_ev m w q (by omega)) ?_)
    · simp only [impl_WorstDays.l0]
      rw [if_pos (by omega), wrapS (x := s + 1) (by omega) (by omega), wrapS (x := ((n + 1 : Nat) : Int) - 1) (by omega) (by omega), show ((n + 1 : Nat) : Int) - 1 = (n : Int) from by omega]
    · rw [← may_same e, h]
      simp only [Bool.false_eq_true, if_false, impl_AddDay_is q false (by omega), Option.bind_some]
      exact hi
theorem impl_WorstDays_ev (m w : Int) (l : List Bool) (n : Int) (r : Int) (h : IsWorst m w l n r) : Ev (fun k => impl_WorstDays.f k m w l n) r := by
  unfold IsWorst at h
  have jt : Ev (fun k => impl_WorstDays.j0 k l n true m w) (-1) := by
    refine Ev.step (f := fun _ => some (-1)) (fun k => ?_) (Ev.now _)
    simp only [impl_WorstDays.j0, if_true]
  unfold impl_WorstDays.f
  rw [impl_IsRule_is]
  simp only [Option.bind_some, impl_InRange_is]
  cases e : isRule m w with
  | false =>
    rw [if_neg (by simp [e])] at h
    subst h
    simp only [Bool.false_eq_true, if_false]
    exact jt
  | true =>
    simp only [if_true]
    by_cases c : 0 ≤ n ∧ n ≤ 200
    · simp only [decide_eq_true c, if_true]
      by_cases c2 : l.length ≤ 400
      · rw [if_pos ⟨e, c, c2⟩] at h
        obtain ⟨D, rfl, hD, hr⟩ := h
        rw [show decide ((l.length : Int) > 400) = false from decide_eq_false (by omega)]
        have h := impl_wd_loop hr (by omega) l 0 rfl (by omega) (by omega) (by omega)
        rw [show ((n.toNat : Nat) : Int) = n from by omega, Int.zero_add] at h
        refine Ev.step (f := fun k => impl_WorstDays.l0 k l n 0 m w) (fun k => ?_) h
        simp only [impl_WorstDays.j0, Bool.false_eq_true, if_false]
      · rw [if_neg (by omega)] at h
        subst h
        rw [show decide ((l.length : Int) > 400) = true from decide_eq_true (by omega)]
        exact jt
    · rw [if_neg (fun h => c h.2.1)] at h
      subst h
      simp only [decide_eq_false c, Bool.false_eq_true, if_false]
      exact jt

/-- Every window of W days that ends from e on, in d ends, holds at most m storms. -/
def keepsGo (m : Int) (W : Nat) (l : List Bool) : Nat → Nat → Bool
  | 0, _ => true
  | d + 1, e => decide ((cnt (lastN (l.take e) W) : Int) ≤ m) && keepsGo m W l d (e + 1)
def keeps (m w : Int) (l : List Bool) : Bool := isRule m w && keepsGo m w.toNat l l.length 1

theorem impl_Keeps_ev (m w : Int) (l : List Bool) (hl : l.length ≤ 17592186044) : Ev (fun k => impl_Keeps.f k m w l) (keeps m w l) := by
  unfold impl_Keeps.f keeps
  rw [impl_IsRule_is]
  simp only [Option.bind_some]
  cases e : isRule m w with
  | false => simp only [Bool.false_eq_true, if_false, Bool.false_and]; exact Ev.now _
  | true =>
    obtain ⟨h1, h2, h3, h4⟩ := isRule_true e
    have key : ∀ (d : Nat) (i : Int), 0 ≤ i → i + d = (l.length : Int) + 1 → Ev (fun k => impl_Keeps.l0 k l ((l.length : Int) + 1) i m w) (keepsGo m w.toNat l d i.toNat) := by
      intro d
      induction d with
      | zero =>
        intro i h0 hi
        refine Ev.step (f := fun _ => some true) (fun k => ?_) (Ev.now _)
        simp only [impl_Keeps.l0]
        rw [if_neg (by omega)]
      | succ d ih =>
        intro i h0 hi
        have hi2 := ih (i + 1) (by omega) (by omega)
        have hlen : (l.take i.toNat).length = i.toNat := by rw [List.length_take]; omega
        have hll := lastN_length (l.take i.toNat) w.toNat
        refine Ev.step (f := fun k => (impl_CountStorms.f k (lastN (l.take i.toNat) w.toNat)).bind fun t => if t > m then some false else impl_Keeps.l0 k l ((l.length : Int) + 1) (i + 1) m w) (fun k => ?_) (Ev.bind (impl_CountStorms_ev _ (by omega)) ?_)
        · simp only [impl_Keeps.l0]
          rw [if_pos (by omega), if_pos h0, if_pos (by omega), impl_last_is _ w (by omega) (by omega) (by omega), wrapS (x := i + 1) (by omega) (by omega)]
          simp only [Option.bind_some]
        · unfold keepsGo
          by_cases c : (cnt (lastN (l.take i.toNat) w.toNat) : Int) ≤ m
          · rw [decide_eq_true c, Bool.true_and, show i.toNat + 1 = (i + 1).toNat from by omega]
            simp only [if_neg (show ¬ (cnt (lastN (l.take i.toNat) w.toNat) : Int) > m from by omega)]
            exact hi2
          · rw [decide_eq_false c, Bool.false_and]
            simp only [if_pos (show (cnt (lastN (l.take i.toNat) w.toNat) : Int) > m from by omega)]
            exact Ev.now _
    simp only [if_true, Bool.true_and]
    rw [wrapS (by omega) (by omega)]
    have h := key (l.length + 1) 0 (by omega) (by omega)
    have e0 : keepsGo m w.toNat l (l.length + 1) (0 : Int).toNat = keepsGo m w.toNat l l.length 1 := by
      rw [keepsGo]
      simp [lastN, cnt, h3]
    rw [e0] at h
    exact h

/-- The calm days at the end, of the reversed past. -/
def calmR : List Bool → Nat
  | [] => 0
  | b :: l => if b then 0 else calmR l + 1
def calm (l : List Bool) : Nat := calmR l.reverse
theorem calmR_le (l : List Bool) : calmR l ≤ l.length := by
  induction l with
  | nil => simp [calmR]
  | cons b l ih => unfold calmR; split <;> simp <;> omega
theorem rev_rd (l : List Bool) (j : Nat) (h : j < l.length) : l.reverse.drop j = rdOf false l ((l.length : Int) - 1 - j) :: l.reverse.drop (j + 1) := by
  rw [List.drop_eq_getElem_cons (by simpa using h)]
  congr 1
  rw [List.getElem_reverse]
  simp only [rdOf, List.getD_eq_getElem?_getD]
  rw [show ((l.length : Int) - 1 - (j : Int)).toNat = l.length - 1 - j from by omega, List.getElem?_eq_getElem (by omega)]
  rfl

theorem impl_CalmDays_ev (l : List Bool) (hl : l.length ≤ 17592186044416) : Ev (fun k => impl_CalmDays.f k l) (calm l : Int) := by
  have key : ∀ (d j : Nat), j + d = l.length → Ev (fun k => impl_CalmDays.l0 k l (j : Int) ((l.length : Int) - 1 - j)) ((j : Int) + calmR (l.reverse.drop j)) := by
    intro d
    induction d with
    | zero =>
      intro j hj
      rw [List.drop_eq_nil_of_le (by simp; omega)]
      refine Ev.step (f := fun _ => some ((j : Int) + calmR [])) (fun k => ?_) (Ev.now _)
      simp only [impl_CalmDays.l0]
      rw [if_neg (by omega)]
      simp [calmR]
    | succ d ih =>
      intro j hj
      have hi := ih (j + 1) (by omega)
      rw [rev_rd l j (by omega)]
      cases hb : rdOf false l ((l.length : Int) - 1 - j) with
      | true =>
        refine Ev.step (f := fun _ => some (j : Int)) (fun k => ?_) ?_
        · simp only [impl_CalmDays.l0, hb, if_true]
          rw [if_pos (by omega), if_pos (by omega), if_pos (by omega)]
        · simpa [calmR] using Ev.now (j : Int)
      | false =>
        have e2 : (j : Int) + calmR (false :: l.reverse.drop (j + 1)) = ((j + 1 : Nat) : Int) + calmR (l.reverse.drop (j + 1)) := by
          simp [calmR]
          omega
        rw [e2]
        refine Ev.step (f := fun k => impl_CalmDays.l0 k l ((j + 1 : Nat) : Int) ((l.length : Int) - 1 - ((j + 1 : Nat) : Int))) (fun k => ?_) hi
        simp only [impl_CalmDays.l0, hb, Bool.false_eq_true, if_false]
        rw [if_pos (by omega), if_pos (by omega), if_pos (by omega), wrapS (x := (j : Int) + 1) (by omega) (by omega), wrapS (by omega) (by omega), show (l.length : Int) - 1 - (j : Int) - 1 = (l.length : Int) - 1 - ((j + 1 : Nat) : Int) from by omega]
        rfl
  have h := key l.length 0 (by omega)
  unfold impl_CalmDays.f
  rw [wrapS (x := (l.length : Int) - 1) (by omega) (by omega)]
  simpa [calm] using h

def hgo (d : Int) (l : List Int) : Int := l.foldl (fun d v => (d * 1000003 + v % 2147483647 + 13) % 2147483647) d
def hashOf (l : List Int) : Int := hgo 11 l
def khash (a : Int) (l : List Int) : Int := hashOf ([a] ++ l ++ [a])
theorem hgo_range (l : List Int) : ∀ d, 0 ≤ d → d < 2147483647 → 0 ≤ hgo d l ∧ hgo d l < 2147483647 := by
  induction l with
  | nil => intro d h1 h2; exact ⟨h1, h2⟩
  | cons v l ih => intro d h1 h2; exact ih ((d * 1000003 + v % 2147483647 + 13) % 2147483647) (by omega) (by omega)
theorem khash_range (a : Int) (l : List Int) : 0 ≤ khash a l ∧ khash a l < 2147483647 := hgo_range _ 11 (by omega) (by omega)
theorem drop_rd (l : List Int) (i : Int) (h0 : 0 ≤ i) (h1 : i < l.length) : l.drop i.toNat = rd l i :: l.drop (i + 1).toNat := by
  rw [show (i + 1).toNat = i.toNat + 1 from by omega, List.drop_eq_getElem_cons (by omega)]
  congr 1
  simp [rd, List.getD_eq_getElem?_getD, List.getElem?_eq_getElem (show i.toNat < l.length by omega)]
theorem hash_round (d v : Int) (h1 : 0 ≤ d) (h2 : d < 2147483647) : Int.tmod (wrap64 ((wrap64 ((wrap64 (d * 1000003)) + v % 2147483647)) + 13)) 2147483647 = (d * 1000003 + v % 2147483647 + 13) % 2147483647 := by
  rw [wrapS (x := d * 1000003) (by omega) (by omega), wrapS (x := d * 1000003 + v % 2147483647) (by omega) (by omega), wrapS (by omega) (by omega), Int.tmod_eq_emod_of_nonneg (by omega)]

theorem l1New_ex (l : List Int) (hl : l.length ≤ 1048576) : ∃ h, Ev (fun k => spec_l1New.f k l) (l, 0, h) := by
  have key : ∀ (d : Nat) (x i : Int), 0 ≤ i → i + d = l.length → ∃ h, Ev (fun k => spec_l1New.l0 k l x i) (l, 0, h) := by
    intro d
    induction d with
    | zero =>
      intro x i h0 hi
      refine ⟨x, Ev.step (f := fun _ => some (l, 0, x)) (fun k => ?_) (Ev.now _)⟩
      simp only [spec_l1New.l0]
      rw [if_neg (by omega)]
    | succ d ih =>
      intro x i h0 hi
      by_cases c : i < 4000
      · obtain ⟨h, hh⟩ := ih (Go.bits .and .i64 (wrap64 ((wrap64 ((wrap64 (x * 137)) + (wrap64 (rd l i)))) + 11)) 1073741823) (i + 1) (by omega) (by omega)
        refine ⟨h, Ev.step (fun k => ?_) hh⟩
        simp only [spec_l1New.l0]
        rw [if_pos (by omega), if_pos c, if_pos h0, wrapS (x := i + 1) (by omega) (by omega)]
      · refine ⟨x, Ev.step (f := fun _ => some (l, 0, x)) (fun k => ?_) (Ev.now _)⟩
        simp only [spec_l1New.l0]
        rw [if_pos (by omega), if_neg c]
  unfold spec_l1New.f
  exact key l.length _ 0 (by omega) (by omega)

theorem and255 (y : Int) : 0 ≤ Go.bits .and .i64 y 255 ∧ Go.bits .and .i64 y 255 ≤ 255 := by
  simp only [Go.bits, BitVec.toNat_and]
  have h : (BitVec.ofInt IntKind.i64.bits y).toNat &&& (BitVec.ofInt IntKind.i64.bits 255).toNat ≤ 255 := by
    have e : (BitVec.ofInt IntKind.i64.bits 255).toNat = 255 := by decide
    rw [e]
    exact Nat.and_le_right
  rw [IntKind.wrap_i64]
  omega
theorem l1Byte_ex (b : List Int) (i h : Int) (hi : 0 ≤ i) (hb : b.length ≤ 1048576) : ∃ x i' h', spec_l1Byte.f b i h = some (x, i', h') ∧ (0 ≤ x ∧ x ≤ 255) ∧ 0 ≤ i' := by
  unfold spec_l1Byte.f
  by_cases c : i < (b.length : Int)
  · rw [if_pos c, if_pos hi]
    exact ⟨_, _, _, rfl, and255 _, by rw [wrapS (by omega) (by omega)]; omega⟩
  · rw [if_neg c]
    exact ⟨_, _, _, rfl, and255 _, hi⟩

theorem l1Below_ex (b : List Int) (i h n : Int) (hi : 0 ≤ i) (hb : b.length ≤ 1048576) : ∃ x i' h', spec_l1Below.f b i h n = some (x, i', h') ∧ (n ≤ 0 → x = 0) ∧ (0 < n → 0 ≤ x ∧ x < n) ∧ 0 ≤ i' := by
  unfold spec_l1Below.f
  by_cases c : n ≤ 0
  · rw [if_pos c]
    exact ⟨_, _, _, rfl, fun _ => rfl, fun h => by omega, hi⟩
  · rw [if_neg c]
    have fin : ∀ v : Int, 0 ≤ v → 0 ≤ Int.tmod v n ∧ Int.tmod v n < n := by
      intro v hv
      rw [Int.tmod_eq_emod_of_nonneg hv]
      exact ⟨Int.emod_nonneg _ (by omega), Int.emod_lt_of_pos _ (by omega)⟩
    obtain ⟨x, i1, h1, e1, b1, g1⟩ := l1Byte_ex b i h hi hb
    by_cases c2 : n ≤ 256
    · rw [if_pos c2, e1]
      simp only [Option.bind_some]
      rw [if_neg (by omega)]
      exact ⟨_, _, _, rfl, fun h => absurd h c, fun _ => fin x b1.1, g1⟩
    · rw [if_neg c2, e1]
      obtain ⟨y, i2, h2, e2, b2, g2⟩ := l1Byte_ex b i1 h1 g1 hb
      obtain ⟨z, i3, h3, e3, b3, g3⟩ := l1Byte_ex b i2 h2 g2 hb
      simp only [Option.bind_some, e2, e3]
      rw [if_neg (by omega)]
      refine ⟨_, _, _, rfl, fun h => absurd h c, fun _ => fin _ ?_, g3⟩
      rw [wrapS (x := x * 65536) (by omega) (by omega), wrapS (x := y * 256) (by omega) (by omega), wrapS (x := x * 65536 + y * 256) (by omega) (by omega), wrapS (by omega) (by omega)]
      omega

theorem l1Once_ex (b : List Int) (i h n : Int) (hi : 0 ≤ i) (hb : b.length ≤ 1048576) : ∃ (x : Bool) (i' h' : Int), spec_l1Once.f b i h n = some (x, i', h') ∧ 0 ≤ i' := by
  unfold spec_l1Once.f
  obtain ⟨x, i1, h1, e1, _, _, g1⟩ := l1Below_ex b i h n hi hb
  rw [e1]
  exact ⟨_, _, _, rfl, g1⟩

theorem l1Int_ex (b : List Int) (i h : Int) (l : List Int) (hl : 0 < l.length) (hi : 0 ≤ i) (hb : b.length ≤ 1048576) : ∃ x i' h', spec_l1Int.f b i h l = some (x, i', h') ∧ x ∈ l ∧ 0 ≤ i' := by
  unfold spec_l1Int.f
  obtain ⟨x, i1, h1, e1, _, b1, g1⟩ := l1Below_ex b i h (l.length : Int) hi hb
  have b1 := b1 (by omega)
  rw [e1]
  simp only [Option.bind_some]
  rw [if_pos b1.1, if_pos b1.2]
  refine ⟨_, _, _, rfl, ?_, g1⟩
  simp only [rd, List.getD_eq_getElem?_getD, List.getElem?_eq_getElem (show x.toNat < l.length by omega), Option.getD_some]
  exact List.getElem_mem _

theorem spec_Max_is (x : Int) : spec_Max.f 0 x = some (if 0 < x then x else 0) := by
  unfold spec_Max.f
  by_cases h : x > 0
  · rw [if_pos h, if_pos h]
  · rw [if_neg h, if_neg (by omega)]

theorem spec_l1In_is (a b c : Int) : spec_l1In.f a b c = some (decide (b ≤ a ∧ a ≤ c)) := by
  unfold spec_l1In.f
  by_cases h : b ≤ a <;> simp [h]

theorem spec_IsRule_is (m w : Int) : spec_IsRule.f m w = some (isRule m w) := by
  unfold spec_IsRule.f
  simp only [spec_l1In_is, Option.bind_some]
  by_cases h : 1 ≤ w ∧ w ≤ 10
  · rw [decide_eq_true h, wrapS (by omega) (by omega)]
    simp [isRule, h]
  · rw [decide_eq_false h]
    simp [isRule, h]

theorem spec_CountStorms_ev (l : List Bool) (hl : l.length ≤ 17592186044416) : Ev (fun k => spec_CountStorms.f k l) (cnt l : Int) := by
  have key : ∀ (d : Nat) (i : Int), 0 ≤ i → i + d = l.length → Ev (fun k => spec_CountStorms.l0 k l (cnt (l.take i.toNat) : Int) i) (cnt l : Int) := by
    intro d
    induction d with
    | zero =>
      intro i h0 hi
      refine Ev.step (f := fun _ => some (cnt l : Int)) (fun k => ?_) (Ev.now _)
      simp only [spec_CountStorms.l0]
      rw [if_neg (by omega), List.take_of_length_le (by omega)]
    | succ d ih =>
      intro i h0 hi
      have hc := cnt_le (l.take i.toNat)
      rw [List.length_take] at hc
      refine Ev.step (f := fun k => spec_CountStorms.l0 k l (cnt (l.take (i + 1).toNat) : Int) (i + 1)) (fun k => ?_) (ih (i + 1) (by omega) (by omega))
      simp only [spec_CountStorms.l0]
      rw [if_pos (by omega), if_pos h0, take_snoc_rd l i h0 (by omega), cnt_snoc, wrapS (x := i + 1) (by omega) (by omega), wrapS (by omega) (by omega)]
      cases rdOf false l i <;> simp
  exact key l.length 0 (by omega) (by omega)

theorem spec_MayStorm_ev (m w : Int) (l : List Bool) (hl : l.length ≤ 17592186044416) : Ev (fun k => spec_MayStorm.f k m w l) (mayS m w l) := by
  unfold spec_MayStorm.f mayS
  rw [spec_IsRule_is]
  simp only [Option.bind_some]
  cases e : isRule m w with
  | false => simp only [Bool.false_eq_true, if_false, Bool.false_and]; exact Ev.now _
  | true =>
    obtain ⟨h1, h2, h3, h4⟩ := isRule_true e
    have hc := lastN_length l (w - 1).toNat
    simp only [if_true, Bool.true_and]
    rw [wrapS (x := (l.length : Int) + 1) (by omega) (by omega), wrapS (by omega) (by omega), spec_Max_is]
    simp only [Option.bind_some]
    have e : (if (0 : Int) < (l.length : Int) + 1 - w then (l.length : Int) + 1 - w else 0) = ((l.length - (w - 1).toNat : Nat) : Int) := by
      split <;> omega
    rw [e]
    simp only [if_pos (show (0 : Int) ≤ ((l.length - (w - 1).toNat : Nat) : Int) from by omega), if_pos (show ((l.length - (w - 1).toNat : Nat) : Int) ≤ (l.length : Int) from by omega), Int.toNat_natCast]
    exact Ev.bind (spec_CountStorms_ev (lastN l (w - 1).toNat) (by omega)) (Ev.now _)

/-- No prefix of A holds more storms than B's of the same length. -/
def dom (A B : List Bool) : Prop := A.length = B.length ∧ ∀ t, cnt (A.take t) ≤ cnt (B.take t)
theorem cnt_lastN (l : List Bool) (k : Nat) : cnt (lastN l k) + cnt (l.take (l.length - k)) = cnt l := by
  have h := cnt_append (l.take (l.length - k)) (l.drop (l.length - k))
  rw [List.take_append_drop] at h
  unfold lastN
  omega
theorem dom_all {A B : List Bool} (h : dom A B) : cnt A ≤ cnt B := by
  have h1 := h.2 A.length
  rw [List.take_length, List.take_of_length_le (by rw [h.1]; exact Nat.le_refl _)] at h1
  exact h1
theorem dom_snoc {A B : List Bool} (h : dom A B) (a b : Bool) (hc : cnt A + (if a then 1 else 0) ≤ cnt B + (if b then 1 else 0)) : dom (A ++ [a]) (B ++ [b]) := by
  have hl := h.1
  refine ⟨by simp [hl], fun t => ?_⟩
  rcases Nat.lt_or_ge A.length t with c | c
  · rw [List.take_of_length_le (by simp; omega), List.take_of_length_le (by simp; omega), cnt_snoc, cnt_snoc]
    exact hc
  · rw [List.take_append_of_le_length c, List.take_append_of_le_length (by omega)]
    exact h.2 t
theorem dom_step {m w : Int} {A B : List Bool} (h : dom A B) : dom (A ++ [mayS m w A]) (B ++ [mayS m w B]) := by
  have ha := dom_all h
  apply dom_snoc h
  cases ea : mayS m w A with
  | false =>
    simp only [Bool.false_eq_true, if_false]
    omega
  | true =>
    cases eb : mayS m w B with
    | true =>
      simp only [if_true]
      omega
    | false =>
      unfold mayS at ea eb
      rw [Bool.and_eq_true] at ea
      rw [ea.1, Bool.true_and] at eb
      have e1 := of_decide_eq_true ea.2
      have e2 := of_decide_eq_false eb
      have c1 := cnt_lastN A (w - 1).toNat
      have c2 := cnt_lastN B (w - 1).toNat
      have c3 := h.2 (A.length - (w - 1).toNat)
      rw [← h.1] at c2
      simp only [if_true, Bool.false_eq_true, if_false]
      omega
/-- Who has had no more storms so far, and has no more calm days to wait for than that allows, is done no later. -/
theorem wd_le {m w : Int} {nB : Nat} {B : List Bool} {DB : Nat} (r : WD m w nB B DB) : ∀ (A : List Bool) (nA DA : Nat), dom A B → nA + cnt B ≤ nB + cnt A → WD m w nA A DA → DA ≤ DB := by
  induction r with
  | done B =>
    intro A nA DA hd hn rA
    have := dom_all hd
    obtain rfl : nA = 0 := by omega
    cases rA
    exact Nat.le_refl _
  | storm n B D h r ih =>
    intro A nA DA hd hn rA
    have hs := dom_step (m := m) (w := w) hd
    rw [h] at hs
    cases rA with
    | done => omega
    | storm nA _ DA' h' r' =>
      rw [h'] at hs
      have := ih _ _ _ hs (by rw [cnt_snoc, cnt_snoc]; simp only [if_true]; omega) r'
      omega
    | calm nA _ DA' h' r' =>
      rw [h'] at hs
      have := ih _ _ _ hs (by rw [cnt_snoc, cnt_snoc]; simp only [if_true, Bool.false_eq_true, if_false]; omega) r'
      omega
  | calm n B D h r ih =>
    intro A nA DA hd hn rA
    have hs := dom_step (m := m) (w := w) hd
    rw [h] at hs
    cases rA with
    | done => omega
    | storm nA _ DA' h' r' =>
      rw [h'] at hs
      have := ih _ _ _ hs (by rw [cnt_snoc, cnt_snoc]; simp only [if_true, Bool.false_eq_true, if_false]; omega) r'
      omega
    | calm nA _ DA' h' r' =>
      rw [h'] at hs
      have := ih _ _ _ hs (by rw [cnt_snoc, cnt_snoc]; simp only [Bool.false_eq_true, if_false]; omega) r'
      omega
theorem wd_exchange {m w : Int} {n : Nat} {l : List Bool} {DA DB : Nat} (rB : WD m w (n + 1) (l ++ [true]) DB) (rA : WD m w n (l ++ [false]) DA) : DA ≤ DB :=
  wd_le rB _ _ _ (dom_snoc ⟨rfl, fun _ => Nat.le_refl _⟩ false true (by simp)) (by rw [cnt_snoc, cnt_snoc]; simp only [if_true, Bool.false_eq_true, if_false]; omega) rA
theorem wd_ge {m w : Int} {n : Nat} {l : List Bool} {D : Nat} (r : WD m w n l D) : n ≤ D := by
  induction r with
  | done l => exact Nat.le_refl _
  | storm n l D h r ih => omega
  | calm n l D h r ih => omega
theorem keepsGo_iff (m : Int) (W : Nat) (l : List Bool) (d : Nat) : ∀ e, keepsGo m W l d e = true ↔ ∀ i, e ≤ i → i < e + d → (cnt (lastN (l.take i) W) : Int) ≤ m := by
  induction d with
  | zero => intro e; simp only [keepsGo, true_iff]; intro i h1 h2; omega
  | succ d ih =>
    intro e
    simp only [keepsGo, Bool.and_eq_true, decide_eq_true_eq, ih (e + 1)]
    constructor
    · rintro ⟨h1, h2⟩ i hi hj
      rcases Nat.lt_or_ge e i with c | c
      · exact h2 i c (by omega)
      · obtain rfl : i = e := by omega
        exact h1
    · intro h
      exact ⟨h e (Nat.le_refl _) (by omega), fun i hi hj => h i (by omega) (by omega)⟩
theorem keepsGo_snoc (m : Int) (W : Nat) (l : List Bool) (s : Bool) (h : keepsGo m W l l.length 1 = true) : keepsGo m W (l ++ [s]) (l ++ [s]).length 1 = decide ((cnt (lastN (l ++ [s]) W) : Int) ≤ m) := by
  rw [keepsGo_iff] at h
  rw [Bool.eq_iff_iff, keepsGo_iff, decide_eq_true_eq, List.length_append, List.length_singleton]
  constructor
  · intro h1
    have h2 := h1 (l.length + 1) (by omega) (by omega)
    rw [List.take_of_length_le (by simp)] at h2
    exact h2
  · intro h1 i hi hj
    rcases Nat.lt_or_ge l.length i with c | c
    · rw [List.take_of_length_le (by simp; omega)]
      exact h1
    · rw [List.take_append_of_le_length c]
      exact h i hi (by omega)
theorem lastN_cnt_le (l : List Bool) (a b : Nat) (h : a ≤ b) : cnt (lastN l a) ≤ cnt (lastN l b) := by
  have h1 := cnt_lastN (lastN l b) a
  rw [lastN_lastN l a b h] at h1
  omega
theorem keeps_true (m w : Int) (l : List Bool) (h : keeps m w l = true) : keeps m w (l ++ [true]) = mayS m w l := by
  unfold keeps at h ⊢
  rw [Bool.and_eq_true] at h
  obtain ⟨h1, h2, h3, h4⟩ := isRule_true h.1
  unfold mayS
  rw [h.1, Bool.true_and, Bool.true_and, keepsGo_snoc m w.toNat l true h.2, show w.toNat = (w - 1).toNat + 1 from by omega, lastN_snoc, cnt_snoc, decide_eq_decide]
  simp only [if_true]
  omega
theorem keeps_false (m w : Int) (l : List Bool) (h : keeps m w l = true) : keeps m w (l ++ [false]) = true := by
  unfold keeps at h ⊢
  rw [Bool.and_eq_true] at h
  obtain ⟨h1, h2, h3, h4⟩ := isRule_true h.1
  rw [h.1, Bool.true_and, keepsGo_snoc m w.toNat l false h.2, show w.toNat = (w - 1).toNat + 1 from by omega, lastN_snoc, cnt_snoc, decide_eq_true_eq]
  simp only [Bool.false_eq_true, if_false, Nat.add_zero]
  have hle := lastN_cnt_le l (w - 1).toNat w.toNat (by omega)
  by_cases c : l.length = 0
  · have := lastN_length l (w - 1).toNat
    have := cnt_le (lastN l (w - 1).toNat)
    omega
  · have hk := (keepsGo_iff m w.toNat l l.length 1).1 h.2 l.length (by omega) (by omega)
    rw [List.take_length] at hk
    omega
theorem laws_longer_is (l : List Bool) (s : Bool) (hl : l.length ≤ 1000) : laws_longer.f l s = some (l ++ [s]) := by
  unfold laws_longer.f
  simp only [Option.bind_some, List.length_nil, List.nil_append]
  rw [if_pos (by omega), if_pos (by omega)]
theorem l6Rule_ex (b : List Int) (i h : Int) (hi : 0 ≤ i) (hb : b.length ≤ 1048576) : ∃ m w i' h', spec_l6Rule.f b i h = some (m, w, i', h') ∧ 0 ≤ i' := by
  unfold spec_l6Rule.f
  obtain ⟨x, i1, h1, e1, _, _, g1⟩ := l1Below_ex b i h 6 hi hb
  obtain ⟨y, i2, h2, e2, _, _, g2⟩ := l1Below_ex b i1 h1 (wrap64 (1 + x)) g1 hb
  rw [e1]
  simp only [Option.bind_some]
  rw [e2]
  exact ⟨_, _, _, _, rfl, g2⟩
theorem l6Past_ex (b : List Int) (m w n : Int) (hn : n ≤ 15) (hb : b.length ≤ 1048576) (i h : Int) (hi : 0 ≤ i) : ∃ (p : List Bool) (i' h' : Int), Ev (fun k => spec_l6Past.f k b i h m w n) (p, i', h') ∧ p.length ≤ 15 ∧ 0 ≤ i' := by
  have key : ∀ (d : Nat) (o : List Bool) (j i h : Int), j + d = n ∨ (d = 0 ∧ n ≤ j) → 0 ≤ j → o.length = j.toNat → o.length + d ≤ 15 → 0 ≤ i → ∃ (p : List Bool) (i' h' : Int), Ev (fun k => spec_l6Past.l0 k n o j b i h m w) (p, i', h') ∧ p.length ≤ 15 ∧ 0 ≤ i' := by
    intro d
    induction d with
    | zero =>
      intro o j i h hj h0 ho hl hi
      refine ⟨o, i, h, Ev.step (f := fun _ => some (o, i, h)) (fun k => ?_) (Ev.now _), by omega, hi⟩
      simp only [spec_l6Past.l0]
      rw [if_neg (by omega)]
    | succ d ih =>
      intro o j i h hj h0 ho hl hi
      cases hm : mayS m w o with
      | true =>
        obtain ⟨x, i1, h1, e1, g1⟩ := l1Once_ex b i h 2 hi hb
        obtain ⟨p, i', h', hE, hp, hi'⟩ := ih (o ++ [x]) (j + 1) i1 h1 (by omega) (by omega) (by simp; omega) (by simp; omega) g1
        refine ⟨p, i', h', Ev.step (f := fun k => (spec_MayStorm.f k m w o).bind fun t187 => (if t187 = true then ((spec_l1Once.f b i h 2).bind fun bt188 => (if o.length < 140737488355328 then (spec_l6Past.l0 k n (o ++ [bt188.1]) (wrap64 (j + 1)) b bt188.2.1 bt188.2.2 m w) else (none))) else (if o.length < 140737488355328 then (spec_l6Past.l0 k n (o ++ [false]) (wrap64 (j + 1)) b i h m w) else (none)))) (fun k => ?_) ?_, hp, hi'⟩
        · simp only [spec_l6Past.l0]
          rw [if_pos (by omega)]
        · refine Ev.bind (spec_MayStorm_ev m w o (by omega)) ?_
          simp only [hm, if_true, e1, Option.bind_some, if_pos (show o.length < 140737488355328 from by omega), wrapS (x := j + 1) (by omega) (by omega)]
          exact hE
      | false =>
        obtain ⟨p, i', h', hE, hp, hi'⟩ := ih (o ++ [false]) (j + 1) i h (by omega) (by omega) (by simp; omega) (by simp; omega) hi
        refine ⟨p, i', h', Ev.step (f := fun k => (spec_MayStorm.f k m w o).bind fun t187 => (if t187 = true then ((spec_l1Once.f b i h 2).bind fun bt188 => (if o.length < 140737488355328 then (spec_l6Past.l0 k n (o ++ [bt188.1]) (wrap64 (j + 1)) b bt188.2.1 bt188.2.2 m w) else (none))) else (if o.length < 140737488355328 then (spec_l6Past.l0 k n (o ++ [false]) (wrap64 (j + 1)) b i h m w) else (none)))) (fun k => ?_) ?_, hp, hi'⟩
        · simp only [spec_l6Past.l0]
          rw [if_pos (by omega)]
        · refine Ev.bind (spec_MayStorm_ev m w o (by omega)) ?_
          simp only [hm, Bool.false_eq_true, if_false, if_pos (show o.length < 140737488355328 from by omega), wrapS (x := j + 1) (by omega) (by omega)]
          exact hE
  unfold spec_l6Past.f
  exact key n.toNat [] 0 i h (by omega) (by omega) rfl (by simp; omega) hi
theorem l6Any_ex (b : List Int) (hb : b.length ≤ 1048576) (i h : Int) (hi : 0 ≤ i) : ∃ (m w : Int) (p : List Bool) (i' h' : Int), Ev (fun k => spec_l6Any.f k b i h) (m, w, p, i', h') ∧ p.length ≤ 16 ∧ 0 ≤ i' := by
  obtain ⟨m, w, i1, h1, e1, g1⟩ := l6Rule_ex b i h hi hb
  obtain ⟨n, i2, h2, e2, _, b2, g2⟩ := l1Below_ex b i1 h1 15 g1 hb
  have b2 := b2 (by omega)
  obtain ⟨p, i3, h3, hE, hp, g3⟩ := l6Past_ex b m w n (by omega) hb i2 h2 g2
  obtain ⟨x, i4, h4, e4, _, _, g4⟩ := l1Below_ex b i3 h3 10 g3 hb
  have step : ∀ (r : Int × Int × List Bool × Int × Int), Ev (fun _ : Nat => (if x = 0 then ((spec_l1Int.f b i4 h4 (([(-1), 5, 9, 10] : List Int))).bind fun bt217 => (some (bt217.1, w, p, bt217.2.1, bt217.2.2))) else (if x = 1 then ((spec_l1Int.f b i4 h4 (([0, 10, 11] : List Int))).bind fun bt223 => (some (m, bt223.1, p, bt223.2.1, bt223.2.2))) else (if x = 2 then (if p.length < 140737488355328 then (some (m, w, (p ++ [true]), i4, h4)) else (none)) else (some (m, w, p, i4, h4)))))) r → Ev (fun k => spec_l6Any.f k b i h) r := by
    intro r hr
    unfold spec_l6Any.f
    simp only [e1, e2, Option.bind_some]
    refine Ev.bind hE ?_
    simp only [e4, Option.bind_some]
    exact hr
  by_cases c0 : x = 0
  · obtain ⟨y, i5, h5, e5, _, g5⟩ := l1Int_ex b i4 h4 [-1, 5, 9, 10] (by simp) g4 hb
    refine ⟨y, w, p, i5, h5, step _ ?_, by omega, g5⟩
    simp only [if_pos c0, e5, Option.bind_some]
    exact Ev.now _
  by_cases c1 : x = 1
  · obtain ⟨y, i5, h5, e5, _, g5⟩ := l1Int_ex b i4 h4 [0, 10, 11] (by simp) g4 hb
    refine ⟨m, y, p, i5, h5, step _ ?_, by omega, g5⟩
    simp only [if_neg c0, if_pos c1, e5, Option.bind_some]
    exact Ev.now _
  by_cases c2 : x = 2
  · refine ⟨m, w, p ++ [true], i4, h4, step _ ?_, by simp; omega, g4⟩
    simp only [if_neg c0, if_neg c1, if_pos c2, if_pos (show p.length < 140737488355328 from by omega)]
    exact Ev.now _
  · refine ⟨m, w, p, i4, h4, step _ ?_, by omega, g4⟩
    simp only [if_neg c0, if_neg c1, if_neg c2]
    exact Ev.now _
theorem DrawWorst_ex (l : List Int) (hl : l.length ≤ 1048576) : ∃ (m w : Int) (p : List Bool) (n : Int), Ev (fun k => spec_DrawWorstDays.f k l) (m, w, p, n) ∧ p.length ≤ 16 ∧ -1 ≤ n ∧ n ≤ 201 := by
  obtain ⟨h, hn⟩ := l1New_ex l hl
  obtain ⟨m, w, p, i1, h1, hE, hp, g1⟩ := l6Any_ex l hl 0 h (by omega)
  obtain ⟨n, i2, h2, e2, b2, g2⟩ := l1Int_ex l i1 h1 [0, 1, 2, 5, 12, 200, 201, -1] (by simp) g1 hl
  refine ⟨m, w, p, n, ?_, hp, by simp at b2; omega, by simp at b2; omega⟩
  unfold spec_DrawWorstDays.f
  refine Ev.bind hn ?_
  refine Ev.bind hE ?_
  simp only [e2, Option.bind_some]
  exact Ev.now _
theorem DrawKeeps_ex (l : List Int) (hl : l.length ≤ 1048576) : ∃ (m w : Int) (p : List Bool), Ev (fun k => spec_DrawKeeps.f k l) (m, w, p) ∧ p.length ≤ 16 := by
  obtain ⟨h, hn⟩ := l1New_ex l hl
  obtain ⟨m, w, p, i1, h1, hE, hp, g1⟩ := l6Any_ex l hl 0 h (by omega)
  refine ⟨m, w, p, ?_, hp⟩
  unfold spec_DrawKeeps.f
  refine Ev.bind hn ?_
  refine Ev.bind hE ?_
  exact Ev.now _
theorem DrawMay_ex (l : List Int) (hl : l.length ≤ 1048576) : ∃ (m w : Int) (p : List Bool), Ev (fun k => spec_DrawMayStorm.f k l) (m, w, p) ∧ p.length ≤ 16 := by
  obtain ⟨m, w, p, hE, hp⟩ := DrawKeeps_ex l hl
  refine ⟨m, w, p, ?_, hp⟩
  unfold spec_DrawMayStorm.f
  refine Ev.bind hE ?_
  exact Ev.now _
theorem DrawAddDay_ex (l : List Int) (hl : l.length ≤ 1048576) : ∃ (p : List Bool) (s : Bool), Ev (fun k => spec_DrawAddDay.f k l) (p, s) ∧ p.length ≤ 16 := by
  obtain ⟨m, w, p, hE, hp⟩ := DrawKeeps_ex l hl
  obtain ⟨h, hn⟩ := l1New_ex l hl
  obtain ⟨s, i1, h1, e1, g1⟩ := l1Once_ex l 0 h 2 (by omega) hl
  refine ⟨p, s, ?_, hp⟩
  unfold spec_DrawAddDay.f
  refine Ev.bind hE ?_
  refine Ev.bind hn ?_
  simp only [e1, Option.bind_some]
  exact Ev.now _
theorem storms_j2 (l : List Int) (hl : l.length ≤ 1048576) : Ev (fun k => laws_FnStorms.j2 k l false) true := by
  obtain ⟨q, s, hE, hq⟩ := DrawAddDay_ex l hl
  refine Ev.step (fun k => by simp only [laws_FnStorms.j2]; rfl) ?_
  simp only [Bool.false_eq_true, if_false]
  refine Ev.bind hE ?_
  simp only [impl_AddDay_is q s (by omega), Option.bind_some]
  have e : addDay q s = lastN q 9 ++ [s] := by rw [addDay, lastN_snoc]
  have hlen : (addDay q s).length = (lastN q 9).length + 1 := by rw [e]; simp
  have h9 := lastN_length q 9
  have hr : rdOf false (addDay q s) (((addDay q s).length : Int) - 1) = s := by
    rw [e]
    simp [rdOf, List.getD_eq_getElem?_getD]
  have hc : (s == ((calm (addDay q s) : Int) == 0)) = true := by
    rw [e, calm, List.reverse_append]
    cases s <;> simp [calmR] <;> omega
  have hk := cnt_le (addDay q s)
  simp only [if_pos (show ((addDay q s).length : Int) > 0 from by omega), if_pos (show ((addDay q s).length : Int) ≤ 10 from by omega), wrapS (x := ((addDay q s).length : Int) - 1) (by omega) (by omega), if_pos (show (0 : Int) ≤ ((addDay q s).length : Int) - 1 from by omega), if_pos (show ((addDay q s).length : Int) - 1 < ((addDay q s).length : Int) from by omega), hr, beq_self_eq_true, if_true]
  refine Ev.bind (impl_CalmDays_ev (addDay q s) (by omega)) ?_
  simp only [hc, if_true]
  refine Ev.bind (impl_CountStorms_ev (addDay q s) (by omega)) ?_
  rw [decide_eq_true (by omega)]
  exact Ev.now _
theorem storms_j1 (l : List Int) (hl : l.length ≤ 1048576) : Ev (fun k => laws_FnStorms.j1 k l) true := by
  obtain ⟨m, w, p, hE, hp⟩ := DrawMay_ex l hl
  have h2 := storms_j2 l hl
  refine Ev.step (fun k => by simp only [laws_FnStorms.j1]; rfl) ?_
  refine Ev.bind hE ?_
  refine Ev.bind (impl_Keeps_ev m w p (by omega)) ?_
  cases hk : keeps m w p with
  | false =>
    simp only [Bool.false_eq_true, if_false]
    exact h2
  | true =>
    simp only [if_true, laws_longer_is p true (by omega), laws_longer_is p false (by omega), Option.bind_some]
    refine Ev.bind (impl_Keeps_ev m w (p ++ [true]) (by simp; omega)) ?_
    refine Ev.bind (impl_MayStorm_ev m w p (by omega)) ?_
    rw [keeps_true m w p hk]
    simp only [bne_self_eq_false, Bool.false_eq_true, if_false]
    refine Ev.bind (impl_Keeps_ev m w (p ++ [false]) (by simp; omega)) ?_
    rw [keeps_false m w p hk]
    exact h2
theorem worst_pos {m w : Int} {l : List Bool} {n : Int} {D : Nat} (hR : isRule m w = true) (h0 : 0 ≤ n) (h1 : n ≤ 200) (hl : l.length ≤ 400) (r : WD m w n.toNat l D) (hD : D ≤ 3000) : IsWorst m w l n D := by
  unfold IsWorst
  rw [if_pos ⟨hR, ⟨h0, h1⟩, hl⟩]
  exact ⟨D, rfl, hD, r⟩
theorem storms_j0 (l : List Int) (hl : l.length ≤ 1048576) (m w : Int) (p : List Bool) (n r : Int) (hp : p.length ≤ 16) (hr : IsWorst m w p n r) : Ev (fun k => laws_FnStorms.j0 k l p n r false m w) true := by
  have h1 := storms_j1 l hl
  refine Ev.step (fun k => by simp only [laws_FnStorms.j0]; rfl) ?_
  simp only [Bool.false_eq_true, if_false]
  by_cases c : r > 0
  · simp only [if_pos c]
    unfold IsWorst at hr
    by_cases hc : isRule m w = true ∧ (0 ≤ n ∧ n ≤ 200) ∧ p.length ≤ 400
    · rw [if_pos hc] at hr
      obtain ⟨D, rfl, hD, rw_⟩ := hr
      obtain ⟨hR, ⟨n0, n1⟩, hpl⟩ := hc
      have hw10 := (isRule_true hR).2.1
      obtain ⟨k, hk⟩ : ∃ k : Nat, n.toNat = k + 1 := by
        cases hz : n.toNat with
        | zero => rw [hz] at rw_; cases rw_; omega
        | succ k => exact ⟨k, rfl⟩
      have hk1 : (n - 1).toNat = k := by omega
      have hn' := wrapS (x := n - 1) (by omega) (by omega)
      have hr' := wrapS (x := (D : Int) - 1) (by omega) (by omega)
      have hpf : (p ++ [false]).length ≤ 400 := by simp; omega
      have hpt : (p ++ [true]).length ≤ 400 := by simp; omega
      have hpa := addDay_length p false
      simp only [laws_longer_is p true (by omega), laws_longer_is p false (by omega), Option.bind_some, hn', hr', impl_AddDay_is p false (by omega)]
      rw [hk] at rw_
      cases rw_ with
      | storm _ _ D' hm r' =>
        obtain ⟨DA, hDA, rA⟩ := wd_ex m w hw10 2210 k (p ++ [false]) (by omega)
        have hle := wd_exchange r' rA
        refine Ev.bind (impl_WorstDays_ev m w (p ++ [false]) (n - 1) DA (worst_pos hR (by omega) (by omega) hpf (by rw [hk1]; exact rA) (by omega))) ?_
        simp only [if_neg (show ¬ (DA : Int) > ((D' + 1 : Nat) : Int) - 1 from by omega)]
        refine Ev.bind (impl_MayStorm_ev m w p (by omega)) ?_
        simp only [hm, if_true]
        refine Ev.bind (impl_WorstDays_ev m w (p ++ [true]) n D' (worst_pos hR (by omega) (by omega) hpt (by rw [hk]; exact r') (by omega))) ?_
        simp only [if_pos (show (D' : Int) = ((D' + 1 : Nat) : Int) - 1 from by omega)]
        refine Ev.bind (impl_WorstDays_ev m w (addDay p false) (n - 1) DA (worst_pos hR (by omega) (by omega) (by omega) (by rw [hk1]; exact wd_same rA _ (by rw [addDay, lastN_lastN _ 10 10 (Nat.le_refl _)])) (by omega))) ?_
        simp only [if_true]
        exact h1
      | calm _ _ D' hm r' =>
        refine Ev.bind (impl_WorstDays_ev m w (p ++ [false]) (n - 1) D' (worst_pos hR (by omega) (by omega) hpf (by rw [hk1]; exact r') (by omega))) ?_
        simp only [if_neg (show ¬ (D' : Int) > ((D' + 1 : Nat) : Int) - 1 from by omega)]
        refine Ev.bind (impl_MayStorm_ev m w p (by omega)) ?_
        simp only [hm, Bool.false_eq_true, if_false]
        refine Ev.bind (impl_WorstDays_ev m w (addDay p false) (n - 1) D' (worst_pos hR (by omega) (by omega) (by omega) (by rw [hk1]; exact wd_same r' _ (by rw [addDay, lastN_lastN _ 10 10 (Nat.le_refl _)])) (by omega))) ?_
        simp only [if_true]
        exact h1
    · rw [if_neg hc] at hr
      omega
  · simp only [if_neg c]
    exact h1
theorem FnStorms : laws_FnStorms.Pure := by
  intro l _ _ _
  apply Ev.rounds
  unfold laws_FnStorms.f laws_big.f
  simp only [Option.bind_some]
  by_cases h1 : (l.length : Int) > 1048576
  · simp only [decide_eq_true h1, if_true]; exact Ev.now _
  simp only [decide_eq_false h1, Bool.false_eq_true, if_false]
  obtain ⟨m, w, p, n, hE, hp, n0, n1⟩ := DrawWorst_ex l (by omega)
  obtain ⟨r, hr⟩ := worst_ex m w p n
  have hT := storms_j0 l (by omega) m w p n r hp hr
  have h400 : decide ((p.length : Int) ≤ 400) = true := decide_eq_true (by omega)
  refine Ev.bind (hE) ?_
  refine Ev.bind (impl_WorstDays_ev m w p n r hr) ?_
  simp only [impl_IsRule_is, Option.bind_some, h400]
  by_cases hc : isRule m w = true ∧ (0 ≤ n ∧ n ≤ 200) ∧ p.length ≤ 400
  · unfold IsWorst at hr
    rw [if_pos hc] at hr
    obtain ⟨D, rfl, hD, rw_⟩ := hr
    have hge := wd_ge rw_
    simp only [if_pos hc.1, if_pos (show n ≥ 0 from hc.2.1.1), if_pos hc.2.1.2, decide_eq_true (show (D : Int) ≥ 0 from by omega), bne_self_eq_false, Bool.false_eq_true, if_false, if_pos (show (D : Int) ≥ 0 from by omega), decide_eq_false (show ¬ (D : Int) < n from by omega)]
    exact hT
  · unfold IsWorst at hr
    rw [if_neg hc] at hr
    subst hr
    have hneg : ¬ ((-1 : Int) ≥ 0) := by decide
    by_cases cR : isRule m w = true
    · by_cases c0 : n ≥ 0
      · by_cases c2 : n ≤ 200
        · exact absurd ⟨cR, ⟨c0, c2⟩, by omega⟩ hc
        · simp only [if_pos cR, if_pos c0, if_neg c2, decide_eq_false hneg, bne_self_eq_false, Bool.false_eq_true, if_false, if_neg hneg]
          exact hT
      · simp only [if_pos cR, if_neg c0, decide_eq_false hneg, bne_self_eq_false, Bool.false_eq_true, if_false, if_neg hneg]
        exact hT
    · simp only [if_neg cR, decide_eq_false hneg, bne_self_eq_false, Bool.false_eq_true, if_false, if_neg hneg]
      exact hT

end Go.Proofs.Ytoafabcopihniaa.Pure
