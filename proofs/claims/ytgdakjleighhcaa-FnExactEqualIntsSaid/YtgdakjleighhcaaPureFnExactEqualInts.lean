/- FnExactEqualInts answers true, for all two lists of numbers. -/
import Derived.Test.YtgdakjleighhcaaPFnExactEqualIntsx1
import Derived.Test.YtgdakjleighhcaaWSized
set_option linter.unusedVariables false
set_option linter.unusedSimpArgs false
namespace Go.Proofs.Ytgdakjleighhcaa.PrintWords
open Go.ChangeShapes Go.WideShapes
/-- The printed row names the word so; it lies one namespace beside. -/
theorem sized_ints {H : Type} {enc : TypeId × Value → H} {P : Program} {W : World} {base : Nat} {spare : Nat → Bool} {held : Bool} {t e : TypeId} {k : IntKind} {a : Option Addr} {len cap : Nat} {d : DataW H} {ps : List MemPlace} {ts : List TypeId} {ds : List (DataW H)} {j : Nat}
    (hsz : (DataW.weightsEach P ts ds).all (· ≤ reachBytes) = true) (ht : ts[j]? = some t) (hd : ds[j]? = some d) (hu : P.underlying t = some (.slice e)) (he : P.underlying e = some (.int k)) (hc : P.cellsOf e = 1) {B : Nat} (hB : P.bytesOf e = B)
    (h : DataW.Trod enc P W base spare held t (.slice a len cap) d ps) : len * B ≤ 140737488351232 :=
  Go.Proofs.YtgdakjleighhcaaW.PrintWords.sized_ints hsz ht hd hu he hc hB h
end Go.Proofs.Ytgdakjleighhcaa.PrintWords
namespace Go.Proofs.Ytgdakjleighhcaa.Pure
open Go.RowKit Go.Proofs.Ytgdakjleighhcaa.PFnExactEqualInts Go.Proofs.YtgdakjleighhcaaW.PrintWords Go.Proofs.YtgdakjleighhcaaW.PrintLast Go.Proofs.YtgdakjleighhcaaW.PrintMore

theorem wrapS {x : Int} (h1 : -9223372036854775808 ≤ x) (h2 : x ≤ 9223372036854775807) : wrap64 x = x := by
  unfold wrap64
  omega
theorem i64wf {x : Int} (h : (Lit.int .i64 x).wf = true) : -9223372036854775808 ≤ x ∧ x ≤ 9223372036854775807 := by
  have h1 : (decide (IntKind.i64.min ≤ x) && decide (x ≤ IntKind.i64.max)) = true := h
  rw [Bool.and_eq_true, decide_eq_true_eq, decide_eq_true_eq] at h1
  exact h1
theorem u8wf {x : Int} (h : (Lit.int .u8 x).wf = true) : 0 ≤ x ∧ x ≤ 255 := by
  have h1 : (decide (IntKind.u8.min ≤ x) && decide (x ≤ IntKind.u8.max)) = true := h
  rw [Bool.and_eq_true, decide_eq_true_eq, decide_eq_true_eq] at h1
  exact h1
/-- What is told of some number of rounds is told of any three together. -/
theorem evNow {α : Type} {g : Option α} {r : α} (h : g = some r) : Ev (fun _ => g) r := ⟨0, fun _ _ => h⟩
theorem one_add_neg (n : Nat) : ((1 : Int) + (n : Int) < 0) = False := by
  simp only [eq_iff_iff, iff_false]
  omega

theorem set_take_succ {α : Type} (d : α) (o l : List α) (n : Nat) (ho : o.length = l.length) (hn : n < l.length) (ht : o.take n = l.take n) : (o.set n (l.getD n d)).take (n + 1) = l.take (n + 1) := by
  apply List.ext_getElem?
  intro j
  have hj := congrArg (fun t => t[j]?) ht
  simp only [List.getElem?_take] at hj ⊢
  by_cases h1 : j < n
  · rw [if_pos h1, if_pos h1] at hj
    rw [if_pos (by omega), if_pos (by omega), List.getElem?_set_ne (by omega)]
    exact hj
  · by_cases h2 : j = n
    · subst h2
      rw [if_pos (by omega), if_pos (by omega), List.getElem?_set_self (by omega), List.getElem?_eq_getElem hn, List.getD_eq_getElem?_getD, List.getElem?_eq_getElem hn]
      rfl
    · rw [if_neg (by omega), if_neg (by omega)]
theorem take_all {α : Type} {o l : List α} (n : Nat) (ho : o.length = l.length) (hn : l.length ≤ n) (ht : o.take n = l.take n) : o = l := by
  rw [List.take_of_length_le (by omega), List.take_of_length_le (by omega)] at ht
  exact ht

/-- The lists' comparison from a place on. -/
def eqFrom (a b : List Int) (n : Nat) : Bool := (List.range a.length).all fun j => decide (j < n) || (a.getD j 0 == b.getD j 0)
theorem eqFrom_iff (a b : List Int) (n : Nat) : eqFrom a b n = true ↔ ∀ j, n ≤ j → j < a.length → a.getD j 0 = b.getD j 0 := by
  simp only [eqFrom, List.all_eq_true, List.mem_range, Bool.or_eq_true, decide_eq_true_eq, beq_iff_eq]
  constructor
  · intro h j h1 h2
    rcases h j h2 with h3 | h3
    · omega
    · exact h3
  · intro h j h2
    by_cases h1 : j < n
    · exact Or.inl h1
    · exact Or.inr (h j (by omega) h2)
theorem eqFrom_end (a b : List Int) (n : Nat) (h : a.length ≤ n) : eqFrom a b n = true := by
  rw [eqFrom_iff]
  intro j h1 h2
  omega
theorem eqFrom_yes (a b : List Int) (n : Nat) (h : a.getD n 0 = b.getD n 0) : eqFrom a b n = eqFrom a b (n + 1) := by
  rw [Bool.eq_iff_iff, eqFrom_iff, eqFrom_iff]
  constructor
  · intro hj j h1 h2; exact hj j (by omega) h2
  · intro hj j h1 h2
    by_cases e : j = n
    · subst e; exact h
    · exact hj j (by omega) h2
theorem eqFrom_no (a b : List Int) (n : Nat) (hn : n < a.length) (h : ¬ a.getD n 0 = b.getD n 0) : eqFrom a b n = false := by
  rw [Bool.eq_false_iff, ne_eq, eqFrom_iff]
  intro hj
  exact h (hj n (Nat.le_refl _) hn)

theorem impl_EqualInts_ev (a b : List Int) (hl : a.length ≤ 70368744177664) : Ev (fun k => impl_EqualInts.f k a b) (decide (a.length = b.length) && eqFrom a b 0) := by
  unfold impl_EqualInts.f
  by_cases hab : (a.length : Int) = (b.length : Int)
  · simp only [if_pos hab]
    have key : ∀ (d : Nat) (i : Int), 0 ≤ i → i + d = a.length → Ev (fun k => impl_EqualInts.l0 k a b (a.length : Int) i) (eqFrom a b i.toNat) := by
      intro d
      induction d with
      | zero =>
        intro i h0 hi
        rw [eqFrom_end a b i.toNat (by omega)]
        refine Ev.step (f := fun _ => some true) (fun k => ?_) (Ev.now _)
        simp only [impl_EqualInts.l0]
        rw [if_neg (by omega)]
      | succ d ih =>
        intro i h0 hi
        by_cases e : rd a i = rd b i
        · rw [eqFrom_yes a b i.toNat e, show i.toNat + 1 = (i + 1).toNat from by omega]
          refine Ev.step (f := fun k => impl_EqualInts.l0 k a b (a.length : Int) (i + 1)) (fun k => ?_) (ih _ (by omega) (by omega))
          simp only [impl_EqualInts.l0]
          rw [if_pos (by omega), if_pos h0, if_pos (by omega), if_pos (by omega), if_pos e, wrapS (by omega) (by omega)]
        · rw [eqFrom_no a b i.toNat (by omega) e]
          refine Ev.step (f := fun _ => some false) (fun k => ?_) (Ev.now _)
          simp only [impl_EqualInts.l0]
          rw [if_pos (by omega), if_pos h0, if_pos (by omega), if_pos (by omega), if_neg e]
    rw [show decide (a.length = b.length) = true from by simp; omega, Bool.true_and]
    exact key a.length 0 (by omega) (by omega)
  · simp only [if_neg hab]
    rw [show decide (a.length = b.length) = false from by simp; omega, Bool.false_and]
    exact Ev.now _

theorem spec_EqualInts_ev (a b : List Int) (hl : a.length ≤ 70368744177664) : Ev (fun k => spec_EqualInts.f k a b) (decide (a.length = b.length) && eqFrom a b 0) := by
  unfold spec_EqualInts.f
  by_cases hab : (a.length : Int) = (b.length : Int)
  · simp only [if_pos hab]
    have key : ∀ (d : Nat) (i : Int), 0 ≤ i → i + d = a.length → Ev (fun k => spec_EqualInts.l0 k a b i) (eqFrom a b i.toNat) := by
      intro d
      induction d with
      | zero =>
        intro i h0 hi
        rw [eqFrom_end a b i.toNat (by omega)]
        refine Ev.step (f := fun _ => some true) (fun k => ?_) (Ev.now _)
        simp only [spec_EqualInts.l0]
        rw [if_neg (by omega)]
      | succ d ih =>
        intro i h0 hi
        by_cases e : rd a i = rd b i
        · rw [eqFrom_yes a b i.toNat e, show i.toNat + 1 = (i + 1).toNat from by omega]
          refine Ev.step (f := fun k => spec_EqualInts.l0 k a b (i + 1)) (fun k => ?_) (ih _ (by omega) (by omega))
          simp only [spec_EqualInts.l0]
          rw [if_pos (by omega), if_pos h0, if_pos (by omega), if_pos e, wrapS (by omega) (by omega)]
        · rw [eqFrom_no a b i.toNat (by omega) e]
          refine Ev.step (f := fun _ => some false) (fun k => ?_) (Ev.now _)
          simp only [spec_EqualInts.l0]
          rw [if_pos (by omega), if_pos h0, if_pos (by omega), if_neg e]
    rw [show decide (a.length = b.length) = true from by simp; omega, Bool.true_and]
    exact key a.length 0 (by omega) (by omega)
  · simp only [if_neg hab]
    rw [show decide (a.length = b.length) = false from by simp; omega, Bool.false_and]
    exact Ev.now _

theorem laws_toIntS_ev (l : List Int) (hl : l.length ≤ 17592186044416) : Ev (fun k => laws_toIntS.f k l) l := by
  have key : ∀ (d : Nat) (o : List Int) (i : Int), 0 ≤ i → o.length = l.length → i + d = l.length → o.take i.toNat = l.take i.toNat → Ev (fun k => laws_toIntS.l0 k l o i) l := by
    intro d
    induction d with
    | zero =>
      intro o i h0 ho hi ht
      refine Ev.step (f := fun _ => some l) (fun k => ?_) (Ev.now _)
      simp only [laws_toIntS.l0]
      rw [if_neg (by omega), take_all i.toNat ho (by omega) ht]
    | succ d ih =>
      intro o i h0 ho hi ht
      refine Ev.step (f := fun k => laws_toIntS.l0 k l (o.set i.toNat (rd l i)) (i + 1)) (fun k => ?_) (ih _ _ (by omega) (by simpa using ho) (by omega) ?_)
      · simp only [laws_toIntS.l0]
        rw [if_pos (by omega), if_pos h0, if_pos (by omega), wrapS (by omega) (by omega)]
      · rw [show (i + 1).toNat = i.toNat + 1 from by omega]
        exact set_take_succ _ o l i.toNat ho (by omega) ht
  refine Ev.congr (f := fun k => laws_toIntS.l0 k l (List.replicate l.length 0) 0) (fun k => ?_) (key l.length _ 0 (by omega) (by simp) (by omega) (by simp))
  unfold laws_toIntS.f
  rw [if_pos (by omega), if_pos (by omega)]
  rfl

theorem laws_eqIntS_ev (l : List Int) (hl : l.length ≤ 281474976710656) : Ev (fun k => laws_eqIntS.f k l l) true := by
  have key : ∀ (d : Nat) (i : Int), 0 ≤ i → i + d = l.length → Ev (fun k => laws_eqIntS.l0 k l l i) true := by
    intro d
    induction d with
    | zero =>
      intro i h0 hi
      refine Ev.step (f := fun _ => some true) (fun k => ?_) (Ev.now _)
      simp only [laws_eqIntS.l0]
      rw [if_neg (by omega)]
    | succ d ih =>
      intro i h0 hi
      refine Ev.step (f := fun k => laws_eqIntS.l0 k l l (i + 1)) (fun k => ?_) (ih _ (by omega) (by omega))
      simp only [laws_eqIntS.l0]
      rw [if_pos (by omega), if_pos h0, if_pos (by omega), wrapS (by omega) (by omega)]
      simp
  refine Ev.congr (f := fun k => laws_eqIntS.l0 k l l 0) (fun k => ?_) (key l.length 0 (by omega) (by omega))
  unfold laws_eqIntS.f
  rw [if_pos rfl]



theorem FnExactEqualInts : laws_FnExactEqualInts.Pure := by
  intro a b _ _ _ _ _ _
  apply Ev.rounds
  unfold laws_FnExactEqualInts.f
  by_cases h1 : (a.length : Int) > 1048576
  · simp only [if_pos h1]; exact Ev.now _
  by_cases h2 : (b.length : Int) > 1048576
  · simp only [if_neg h1, if_pos h2]; exact Ev.now _
  simp only [if_neg h1, if_neg h2]
  refine Ev.bind (laws_toIntS_ev a (by omega)) ?_
  refine Ev.bind (laws_toIntS_ev b (by omega)) ?_
  refine Ev.bind (spec_EqualInts_ev a b (by omega)) ?_
  refine Ev.bind (laws_toIntS_ev a (by omega)) ?_
  refine Ev.bind (laws_toIntS_ev b (by omega)) ?_
  refine Ev.bind (impl_EqualInts_ev a b (by omega)) ?_
  simp only [if_true, if_false, Bool.false_eq_true, Bool.not_true, Bool.not_false, bne_self_eq_false, eq_self, ite_true, ite_false, reduceIte]
  refine Ev.bind (laws_toIntS_ev a (by omega)) ?_
  refine Ev.bind (laws_eqIntS_ev a (by omega)) ?_
  simp only [if_true, if_false, Bool.false_eq_true, Bool.not_true, Bool.not_false, bne_self_eq_false, eq_self, ite_true, ite_false, reduceIte]
  refine Ev.bind (laws_toIntS_ev b (by omega)) ?_
  refine Ev.bind (laws_eqIntS_ev b (by omega)) ?_
  simp only [if_true, if_false, Bool.false_eq_true, Bool.not_true, Bool.not_false, bne_self_eq_false, eq_self, ite_true, ite_false, reduceIte]
  exact Ev.now _

end Go.Proofs.Ytgdakjleighhcaa.Pure
