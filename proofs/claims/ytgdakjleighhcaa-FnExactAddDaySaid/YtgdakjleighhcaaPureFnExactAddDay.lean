/- FnExactAddDay answers true, for each list of bools and each bool. -/
import Derived.Test.YtgdakjleighhcaaQFnExactAddDayx2
set_option linter.unusedVariables false
set_option linter.unusedSimpArgs false
namespace Go.Proofs.Ytgdakjleighhcaa.Pure
open Go.RowKit Go.Proofs.Ytgdakjleighhcaa.QFnExactAddDay Go.Proofs.YtgdakjleighhcaaW.PrintWords Go.Proofs.YtgdakjleighhcaaW.PrintLast Go.Proofs.YtgdakjleighhcaaW.PrintMore

theorem wrapS {x : Int} (h1 : -9223372036854775808 ≤ x) (h2 : x ≤ 9223372036854775807) : wrap64 x = x := by
  unfold wrap64
  omega
theorem i64wf {x : Int} (h : (Lit.int .i64 x).wf = true) : -9223372036854775808 ≤ x ∧ x ≤ 9223372036854775807 := by
  have h1 : (decide (IntKind.i64.min ≤ x) && decide (x ≤ IntKind.i64.max)) = true := h
  rw [Bool.and_eq_true, decide_eq_true_eq, decide_eq_true_eq] at h1
  exact h1
theorem u8wf {x : Int} (h : (Lit.int .u8 x).wf = true) : 0 ≤ x ∧ x ≤ 255 := by
  have h1 : (decide (IntKind.u8.min ≤ x) && decide (x ≤ IntKind.u8.max)) = true := h
  rw [Bool.and_eq_true, decide_eq_true_eq, decide_eq_true_eq] at h1
  exact h1
/-- What is told of some number of rounds is told of any three together. -/
theorem evNow {α : Type} {g : Option α} {r : α} (h : g = some r) : Ev (fun _ => g) r := ⟨0, fun _ _ => h⟩
theorem one_add_neg (n : Nat) : ((1 : Int) + (n : Int) < 0) = False := by
  simp only [eq_iff_iff, iff_false]
  omega

theorem set_take_succ {α : Type} (d : α) (o l : List α) (n : Nat) (ho : o.length = l.length) (hn : n < l.length) (ht : o.take n = l.take n) : (o.set n (l.getD n d)).take (n + 1) = l.take (n + 1) := by
  apply List.ext_getElem?
  intro j
  have hj := congrArg (fun t => t[j]?) ht
  simp only [List.getElem?_take] at hj ⊢
  by_cases h1 : j < n
  · rw [if_pos h1, if_pos h1] at hj
    rw [if_pos (by omega), if_pos (by omega), List.getElem?_set_ne (by omega)]
    exact hj
  · by_cases h2 : j = n
    · subst h2
      rw [if_pos (by omega), if_pos (by omega), List.getElem?_set_self (by omega), List.getElem?_eq_getElem hn, List.getD_eq_getElem?_getD, List.getElem?_eq_getElem hn]
      rfl
    · rw [if_neg (by omega), if_neg (by omega)]
theorem take_all {α : Type} {o l : List α} (n : Nat) (ho : o.length = l.length) (hn : l.length ≤ n) (ht : o.take n = l.take n) : o = l := by
  rw [List.take_of_length_le (by omega), List.take_of_length_le (by omega)] at ht
  exact ht

def cnt (l : List Bool) : Nat := (l.filter id).length
theorem cnt_le (l : List Bool) : cnt l ≤ l.length := List.length_filter_le _ _
theorem cnt_append (a b : List Bool) : cnt (a ++ b) = cnt a + cnt b := by simp [cnt]
theorem cnt_snoc (l : List Bool) (b : Bool) : cnt (l ++ [b]) = cnt l + if b then 1 else 0 := by
  rw [cnt_append]
  cases b <;> simp [cnt]
theorem take_snoc_rd (l : List Bool) (i : Int) (h0 : 0 ≤ i) (h1 : i < l.length) : l.take (i + 1).toNat = l.take i.toNat ++ [rdOf false l i] := by
  rw [show (i + 1).toNat = i.toNat + 1 from by omega, List.take_succ_eq_append_getElem (by omega)]
  congr 1
  simp [rdOf, List.getD_eq_getElem?_getD, List.getElem?_eq_getElem (show i.toNat < l.length by omega)]

def lastN (l : List Bool) (n : Nat) : List Bool := l.drop (l.length - n)
theorem lastN_length (l : List Bool) (n : Nat) : (lastN l n).length = min l.length n := by
  simp only [lastN, List.length_drop]
  omega
theorem lastN_snoc (l : List Bool) (s : Bool) (n : Nat) : lastN (l ++ [s]) (n + 1) = lastN l n ++ [s] := by
  simp only [lastN, List.length_append, List.length_cons, List.length_nil]
  rw [show l.length + (0 + 1) - (n + 1) = l.length - n from by omega, List.drop_append_of_le_length (by omega)]
theorem lastN_lastN (l : List Bool) (m n : Nat) (h : m ≤ n) : lastN (lastN l n) m = lastN l m := by
  simp only [lastN, List.length_drop, List.drop_drop]
  congr 1
  omega
theorem lastN_all (l : List Bool) (n : Nat) (h : l.length ≤ n) : lastN l n = l := by
  simp only [lastN]
  rw [show l.length - n = 0 from by omega, List.drop_zero]
def isRule (m w : Int) : Bool := decide ((1 ≤ w ∧ w ≤ 10) ∧ 0 ≤ m ∧ m ≤ w - 1)
theorem isRule_true {m w : Int} (e : isRule m w = true) : 1 ≤ w ∧ w ≤ 10 ∧ 0 ≤ m ∧ m ≤ w - 1 := by
  simp only [isRule, decide_eq_true_eq] at e
  exact ⟨e.1.1, e.1.2, e.2.1, e.2.2⟩
def mayS (m w : Int) (l : List Bool) : Bool := isRule m w && decide ((cnt (lastN l (w - 1).toNat) : Int) < m)
def addDay (l : List Bool) (s : Bool) : List Bool := lastN (l ++ [s]) 10
theorem addDay_length (l : List Bool) (s : Bool) : (addDay l s).length ≤ 10 := by
  rw [addDay, lastN_length]
  omega

theorem impl_last_is (l : List Bool) (n : Int) (h0 : 0 ≤ n) (h1 : n ≤ 1000) (hl : l.length ≤ 17592186044416) : impl_last.f l n = some (lastN l n.toNat) := by
  unfold impl_last.f
  rw [wrapS (by omega) (by omega)]
  have e : mx ((l.length : Int) - n) 0 = ((l.length - n.toNat : Nat) : Int) := by
    unfold mx
    split <;> omega
  rw [e, if_pos (by omega), if_pos (by omega)]
  simp only [lastN, Int.toNat_natCast]

theorem impl_AddDay_is (l : List Bool) (s : Bool) (hl : l.length ≤ 70368744177) : impl_AddDay.f l s = some (addDay l s) := by
  unfold impl_AddDay.f
  have h := addDay_length l s
  simp only [Option.bind_some, List.nil_append, List.length_nil]
  rw [if_pos (by omega)]
  try simp only [Option.bind_some]
  rw [if_pos (by omega), impl_last_is (l ++ [s]) 10 (by omega) (by omega) (by simp; omega)]
  try simp only [Option.bind_some]
  have e : lastN (l ++ [s]) (10 : Int).toNat = addDay l s := rfl
  rw [e, if_pos (by omega)]

theorem spec_Max_is (x : Int) : spec_Max.f 0 x = some (if 0 < x then x else 0) := by
  unfold spec_Max.f
  by_cases h : x > 0
  · rw [if_pos h, if_pos h]
  · rw [if_neg h, if_neg (by omega)]

theorem spec_AddDay_is (l : List Bool) (s : Bool) (hl : l.length ≤ 70368744177) : spec_AddDay.f l s = some (addDay l s) := by
  unfold spec_AddDay.f
  simp only [Option.bind_some, List.nil_append, List.length_nil]
  rw [if_pos (by omega)]
  try simp only [Option.bind_some]
  rw [if_pos (by omega)]
  have hlen : (l ++ [s]).length = l.length + 1 := by simp
  try simp only [Option.bind_some]
  rw [wrapS (by omega) (by omega), spec_Max_is]
  try simp only [Option.bind_some]
  have e : (if (0 : Int) < ((l ++ [s]).length : Int) - 10 then ((l ++ [s]).length : Int) - 10 else 0) = (((l ++ [s]).length - 10 : Nat) : Int) := by
    split <;> omega
  rw [e, if_pos (by omega), if_pos (by omega)]
  rfl

theorem laws_toBoolS_ev (l : List Bool) (hl : l.length ≤ 17592186044416) : Ev (fun k => laws_toBoolS.f k l) l := by
  have key : ∀ (d : Nat) (o : List Bool) (i : Int), 0 ≤ i → o.length = l.length → i + d = l.length → o.take i.toNat = l.take i.toNat → Ev (fun k => laws_toBoolS.l0 k l o i) l := by
    intro d
    induction d with
    | zero =>
      intro o i h0 ho hi ht
      refine Ev.step (f := fun _ => some l) (fun k => ?_) (Ev.now _)
      simp only [laws_toBoolS.l0]
      rw [if_neg (by omega), take_all i.toNat ho (by omega) ht]
    | succ d ih =>
      intro o i h0 ho hi ht
      refine Ev.step (f := fun k => laws_toBoolS.l0 k l (o.set i.toNat (rdOf false l i)) (i + 1)) (fun k => ?_) (ih _ _ (by omega) (by simpa using ho) (by omega) ?_)
      · simp only [laws_toBoolS.l0]
        rw [if_pos (by omega), if_pos h0, if_pos (by omega), wrapS (by omega) (by omega)]
      · rw [show (i + 1).toNat = i.toNat + 1 from by omega]
        exact set_take_succ _ o l i.toNat ho (by omega) ht
  refine Ev.congr (f := fun k => laws_toBoolS.l0 k l (List.replicate l.length false) 0) (fun k => ?_) (key l.length _ 0 (by omega) (by simp) (by omega) (by simp))
  unfold laws_toBoolS.f
  rw [if_pos (by omega), if_pos (by omega)]
  rfl

theorem laws_eqBoolS_ev (l : List Bool) (hl : l.length ≤ 281474976710656) : Ev (fun k => laws_eqBoolS.f k l l) true := by
  have key : ∀ (d : Nat) (i : Int), 0 ≤ i → i + d = l.length → Ev (fun k => laws_eqBoolS.l0 k l l i) true := by
    intro d
    induction d with
    | zero =>
      intro i h0 hi
      refine Ev.step (f := fun _ => some true) (fun k => ?_) (Ev.now _)
      simp only [laws_eqBoolS.l0]
      rw [if_neg (by omega)]
    | succ d ih =>
      intro i h0 hi
      refine Ev.step (f := fun k => laws_eqBoolS.l0 k l l (i + 1)) (fun k => ?_) (ih _ (by omega) (by omega))
      simp only [laws_eqBoolS.l0]
      rw [if_pos (by omega), if_pos h0, if_pos (by omega), wrapS (by omega) (by omega)]
      simp
  refine Ev.congr (f := fun k => laws_eqBoolS.l0 k l l 0) (fun k => ?_) (key l.length 0 (by omega) (by omega))
  unfold laws_eqBoolS.f
  rw [if_pos rfl]



def markedBool (n : Nat) (a : Int) : List Bool := (List.range n).map fun (j : Nat) => ((a + j).tmod 3 == 0)
theorem markedBool_length (n : Nat) (a : Int) : (markedBool n a).length = n := by simp [markedBool]
theorem markedBool_at (n : Nat) (a : Int) (j : Nat) (h : j < n) : (markedBool n a).getD j false = ((a + j).tmod 3 == 0) := by
  simp [markedBool, List.getD_eq_getElem?_getD, h]
theorem laws_markBoolS_ev (l : List Bool) (a : Int) (ha : 0 ≤ a) (hl : a + l.length ≤ 4611686018427387904) : Ev (fun k => laws_markBoolS.f k l a) (a + l.length, markedBool l.length a) := by
  have key : ∀ (d : Nat) (o : List Bool) (x i : Int), 0 ≤ i → x = a + i → o.length = l.length → i + d = l.length → o.take i.toNat = (markedBool l.length a).take i.toNat → Ev (fun k => laws_markBoolS.l0 k o x i) (a + l.length, markedBool l.length a) := by
    intro d
    induction d with
    | zero =>
      intro o x i h0 hx ho hi ht
      refine Ev.step (f := fun _ => some (a + l.length, markedBool l.length a)) (fun k => ?_) (Ev.now _)
      simp only [laws_markBoolS.l0]
      have hm := markedBool_length l.length a
      rw [if_neg (by omega), take_all i.toNat (by omega) (by omega) ht, hx, show i = (l.length : Int) from by omega]
    | succ d ih =>
      intro o x i h0 hx ho hi ht
      have hm := markedBool_length l.length a
      have hat := markedBool_at l.length a i.toNat (by omega)
      rw [show (i.toNat : Int) = i from by omega, ← hx] at hat
      refine Ev.step (f := fun k => laws_markBoolS.l0 k (o.set i.toNat ((markedBool l.length a).getD i.toNat false)) (x + 1) (i + 1)) (fun k => ?_) (ih _ _ _ (by omega) (by omega) (by simpa using ho) (by omega) ?_)
      · simp only [laws_markBoolS.l0]
        rw [if_pos (by omega), if_pos h0, wrapS (by omega) (by omega), wrapS (by omega) (by omega), hat]
      · rw [show (i + 1).toNat = i.toNat + 1 from by omega]
        exact set_take_succ false o _ i.toNat (by omega) (by omega) ht
  exact key l.length l a 0 (by omega) (by omega) rfl (by omega) (by simp)



theorem laws_heldBoolS_ev (n : Nat) (a : Int) (ha : 0 ≤ a) (hl : a + n ≤ 4611686018427387904) : Ev (fun k => laws_heldBoolS.f k (markedBool n a) a) (a + n) := by
  have hm := markedBool_length n a
  have key : ∀ (d : Nat) (x i : Int), 0 ≤ i → x = a + i → i + d = n → Ev (fun k => laws_heldBoolS.l0 k (markedBool n a) x i) (a + n) := by
    intro d
    induction d with
    | zero =>
      intro x i h0 hx hi
      refine Ev.step (f := fun _ => some (a + n)) (fun k => ?_) (Ev.now _)
      simp only [laws_heldBoolS.l0]
      rw [if_neg (by omega), hx, show i = (n : Int) from by omega]
    | succ d ih =>
      intro x i h0 hx hi
      refine Ev.step (f := fun k => laws_heldBoolS.l0 k (markedBool n a) (x + 1) (i + 1)) (fun k => ?_) (ih _ _ (by omega) (by omega) (by omega))
      have hat : rdOf false (markedBool n a) i = (markedBool n a).getD i.toNat false := rfl
      rw [markedBool_at n a i.toNat (by omega), show (i.toNat : Int) = i from by omega, ← hx] at hat
      simp only [laws_heldBoolS.l0]
      rw [if_pos (by omega), if_pos h0, wrapS (by omega) (by omega), wrapS (by omega) (by omega), hat]
      simp
  exact key n a 0 (by omega) (by omega) (by omega)



theorem FnExactAddDay (l : List Bool) (s : Bool) : ∃ k, laws_FnExactAddDay.f k l s = some true := by
  apply Ev.rounds
  unfold laws_FnExactAddDay.f
  by_cases h1 : (l.length : Int) > 1048576
  · simp only [if_pos h1]; exact Ev.now _
  have hw := addDay_length l s
  simp only [if_neg h1]
  refine Ev.bind (laws_toBoolS_ev l (by omega)) ?_
  refine Ev.bind (evNow (spec_AddDay_is l s (by omega))) ?_
  refine Ev.bind (laws_toBoolS_ev l (by omega)) ?_
  refine Ev.bind (evNow (impl_AddDay_is l s (by omega))) ?_
  refine Ev.bind (laws_eqBoolS_ev _ (by omega)) ?_
  simp only [if_true, if_false, Bool.false_eq_true, Bool.not_true, Bool.not_false, bne_self_eq_false, eq_self, ite_true, ite_false, reduceIte]
  refine Ev.bind (laws_toBoolS_ev l (by omega)) ?_
  refine Ev.bind (laws_eqBoolS_ev l (by omega)) ?_
  simp only [if_true, if_false, Bool.false_eq_true, Bool.not_true, Bool.not_false, bne_self_eq_false, eq_self, ite_true, ite_false, reduceIte]
  refine Ev.bind (laws_markBoolS_ev l 1 (by omega) (by omega)) ?_
  simp only [one_add_neg, if_true, if_false, Bool.false_eq_true, Bool.not_true, Bool.not_false, bne_self_eq_false, eq_self, ite_true, ite_false, reduceIte]
  refine Ev.bind (laws_eqBoolS_ev _ (by omega)) ?_
  simp only [if_true, if_false, Bool.false_eq_true, Bool.not_true, Bool.not_false, bne_self_eq_false, eq_self, ite_true, ite_false, reduceIte]
  refine Ev.step (g := fun k => laws_FnExactAddDay.j0 k _ _ _ _ false) (fun k => by simp only [laws_FnExactAddDay.j0]; rfl) ?_
  simp only [if_true, if_false, Bool.false_eq_true, Bool.not_true, Bool.not_false, bne_self_eq_false, eq_self, ite_true, ite_false, reduceIte]
  refine Ev.bind (laws_markBoolS_ev _ 1 (by omega) (by omega)) ?_
  refine Ev.bind (laws_heldBoolS_ev _ 1 (by omega) (by omega)) ?_
  simp only [one_add_neg, if_true, if_false, Bool.false_eq_true, Bool.not_true, Bool.not_false, bne_self_eq_false, eq_self, ite_true, ite_false, reduceIte]
  refine Ev.bind (laws_toBoolS_ev l (by omega)) ?_
  refine Ev.bind (evNow (impl_AddDay_is l s (by omega))) ?_
  refine Ev.bind (laws_eqBoolS_ev _ (by omega)) ?_
  simp only [if_true, if_false, Bool.false_eq_true, Bool.not_true, Bool.not_false, bne_self_eq_false, eq_self, ite_true, ite_false, reduceIte]
  refine Ev.bind (laws_heldBoolS_ev _ 1 (by omega) (by omega)) ?_
  simp only [one_add_neg, if_true, if_false, Bool.false_eq_true, Bool.not_true, Bool.not_false, bne_self_eq_false, eq_self, ite_true, ite_false, reduceIte]
  exact Ev.now _

end Go.Proofs.Ytgdakjleighhcaa.Pure
