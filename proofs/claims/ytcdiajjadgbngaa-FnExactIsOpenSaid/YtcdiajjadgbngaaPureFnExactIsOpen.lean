/- FnExactIsOpen answers true, for each land and all numbers that an int holds. -/
import Derived.Test.YtcdiajjadgbngaaPFnExactIsOpenx2
set_option linter.unusedVariables false
set_option linter.unusedSimpArgs false
namespace Go.Proofs.Ytcdiajjadgbngaa.Pure
open Go.RowKit Go.Proofs.Ytcdiajjadgbngaa.PFnExactIsOpen Go.Proofs.YtcdiajjadgbngaaW.PrintWords Go.Proofs.YtcdiajjadgbngaaW.PrintLast Go.Proofs.YtcdiajjadgbngaaW.PrintMore

theorem wrapS {x : Int} (h1 : -9223372036854775808 ≤ x) (h2 : x ≤ 9223372036854775807) : wrap64 x = x := by
  unfold wrap64
  omega
theorem i64wf {x : Int} (h : (Lit.int .i64 x).wf = true) : -9223372036854775808 ≤ x ∧ x ≤ 9223372036854775807 := by
  have h1 : (decide (IntKind.i64.min ≤ x) && decide (x ≤ IntKind.i64.max)) = true := h
  rw [Bool.and_eq_true, decide_eq_true_eq, decide_eq_true_eq] at h1
  exact h1
theorem u8wf {x : Int} (h : (Lit.int .u8 x).wf = true) : 0 ≤ x ∧ x ≤ 255 := by
  have h1 : (decide (IntKind.u8.min ≤ x) && decide (x ≤ IntKind.u8.max)) = true := h
  rw [Bool.and_eq_true, decide_eq_true_eq, decide_eq_true_eq] at h1
  exact h1
/-- What is told of some number of rounds is told of any three together. -/
theorem evNow {α : Type} {g : Option α} {r : α} (h : g = some r) : Ev (fun _ => g) r := ⟨0, fun _ _ => h⟩
theorem one_add_neg (n : Nat) : ((1 : Int) + (n : Int) < 0) = False := by
  simp only [eq_iff_iff, iff_false]
  omega

theorem set_take_succ {α : Type} (d : α) (o l : List α) (n : Nat) (ho : o.length = l.length) (hn : n < l.length) (ht : o.take n = l.take n) : (o.set n (l.getD n d)).take (n + 1) = l.take (n + 1) := by
  apply List.ext_getElem?
  intro j
  have hj := congrArg (fun t => t[j]?) ht
  simp only [List.getElem?_take] at hj ⊢
  by_cases h1 : j < n
  · rw [if_pos h1, if_pos h1] at hj
    rw [if_pos (by omega), if_pos (by omega), List.getElem?_set_ne (by omega)]
    exact hj
  · by_cases h2 : j = n
    · subst h2
      rw [if_pos (by omega), if_pos (by omega), List.getElem?_set_self (by omega), List.getElem?_eq_getElem hn, List.getD_eq_getElem?_getD, List.getElem?_eq_getElem hn]
      rfl
    · rw [if_neg (by omega), if_neg (by omega)]
theorem take_all {α : Type} {o l : List α} (n : Nat) (ho : o.length = l.length) (hn : l.length ≤ n) (ht : o.take n = l.take n) : o = l := by
  rw [List.take_of_length_le (by omega), List.take_of_length_le (by omega)] at ht
  exact ht

def hgo (d : Int) (l : List Int) : Int := l.foldl (fun d v => (d * 1000003 + v % 2147483647 + 13) % 2147483647) d
def hashOf (l : List Int) : Int := hgo 11 l
def khash (a : Int) (l : List Int) : Int := hashOf ([a] ++ l ++ [a])
theorem hgo_range (l : List Int) : ∀ d, 0 ≤ d → d < 2147483647 → 0 ≤ hgo d l ∧ hgo d l < 2147483647 := by
  induction l with
  | nil => intro d h1 h2; exact ⟨h1, h2⟩
  | cons v l ih => intro d h1 h2; exact ih ((d * 1000003 + v % 2147483647 + 13) % 2147483647) (by omega) (by omega)
theorem khash_range (a : Int) (l : List Int) : 0 ≤ khash a l ∧ khash a l < 2147483647 := hgo_range _ 11 (by omega) (by omega)
theorem drop_rd (l : List Int) (i : Int) (h0 : 0 ≤ i) (h1 : i < l.length) : l.drop i.toNat = rd l i :: l.drop (i + 1).toNat := by
  rw [show (i + 1).toNat = i.toNat + 1 from by omega, List.drop_eq_getElem_cons (by omega)]
  congr 1
  simp [rd, List.getD_eq_getElem?_getD, List.getElem?_eq_getElem (show i.toNat < l.length by omega)]
theorem hash_round (d v : Int) (h1 : 0 ≤ d) (h2 : d < 2147483647) : Int.tmod (wrap64 ((wrap64 ((wrap64 (d * 1000003)) + v % 2147483647)) + 13)) 2147483647 = (d * 1000003 + v % 2147483647 + 13) % 2147483647 := by
  rw [wrapS (x := d * 1000003) (by omega) (by omega), wrapS (x := d * 1000003 + v % 2147483647) (by omega) (by omega), wrapS (by omega) (by omega), Int.tmod_eq_emod_of_nonneg (by omega)]

theorem impl_InRange_is (a b c : Int) : impl_InRange.f a b c = some (decide (b ≤ a ∧ a ≤ c)) := by
  unfold impl_InRange.f
  by_cases h : b ≤ a <;> simp [h]

theorem spec_l1In_is (a b c : Int) : spec_l1In.f a b c = some (decide (b ≤ a ∧ a ≤ c)) := by
  unfold spec_l1In.f
  by_cases h : b ≤ a <;> simp [h]

def okCells (l : List Int) : Bool := l.all fun x => decide (0 ≤ x ∧ x ≤ 2)
def isLand (w h : Int) (l : List Int) : Bool := decide ((1 ≤ w ∧ w ≤ 8) ∧ (1 ≤ h ∧ h ≤ 8) ∧ (l.length : Int) = w * h) && okCells l
theorem isLand_true {w h : Int} {l : List Int} (e : isLand w h l = true) : (1 ≤ w ∧ w ≤ 8) ∧ (1 ≤ h ∧ h ≤ 8) ∧ (l.length : Int) = w * h ∧ l.length ≤ 64 ∧ okCells l = true := by
  simp only [isLand, Bool.and_eq_true, decide_eq_true_eq] at e
  obtain ⟨⟨h1, h2, h3⟩, h4⟩ := e
  refine ⟨h1, h2, h3, ?_, h4⟩
  have : w * h ≤ 8 * 8 := Int.mul_le_mul h1.2 h2.2 (by omega) (by omega)
  omega
theorem wrap_wh {w h : Int} (h1 : 1 ≤ w ∧ w ≤ 8) (h2 : 1 ≤ h ∧ h ≤ 8) : wrap64 (w * h) = w * h := by
  have u : w * h ≤ 8 * 8 := Int.mul_le_mul h1.2 h2.2 (by omega) (by omega)
  have v : 0 ≤ w * h := Int.mul_nonneg (by omega) (by omega)
  exact wrapS (by omega) (by omega)

theorem impl_allIn_ev (l : List Int) (hl : l.length ≤ 17592186044416) : Ev (fun k => impl_allIn.f k l 0 2) (okCells l) := by
  have key : ∀ (d : Nat) (i : Int), 0 ≤ i → i + d = l.length → Ev (fun k => impl_allIn.l0 k 0 2 l (l.length : Int) i) (okCells (l.drop i.toNat)) := by
    intro d
    induction d with
    | zero =>
      intro i h0 hi
      rw [List.drop_eq_nil_of_le (by omega)]
      refine Ev.step (f := fun _ => some true) (fun k => ?_) (Ev.now _)
      simp only [impl_allIn.l0]
      rw [if_neg (by omega)]
    | succ d ih =>
      intro i h0 hi
      have hi2 := ih (i + 1) (by omega) (by omega)
      rw [drop_rd l i h0 (by omega)]
      by_cases c : 0 ≤ rd l i ∧ rd l i ≤ 2
      · rw [show okCells (rd l i :: l.drop (i + 1).toNat) = okCells (l.drop (i + 1).toNat) from by simp [okCells, c]]
        refine Ev.step (f := fun k => impl_allIn.l0 k 0 2 l (l.length : Int) (i + 1)) (fun k => ?_) hi2
        simp only [impl_allIn.l0, impl_InRange_is, Option.bind_some, decide_eq_true c, if_true]
        rw [if_pos (by omega), if_pos h0, if_pos (by omega), wrapS (by omega) (by omega)]
      · rw [show okCells (rd l i :: l.drop (i + 1).toNat) = false from by simp [okCells, c]]
        refine Ev.step (f := fun _ => some false) (fun k => ?_) (Ev.now _)
        simp only [impl_allIn.l0, impl_InRange_is, Option.bind_some, decide_eq_false c, Bool.false_eq_true, if_false]
        rw [if_pos (by omega), if_pos h0, if_pos (by omega)]
  exact key l.length 0 (by omega) (by omega)
theorem impl_IsLand_ev (w h : Int) (l : List Int) (hl : l.length ≤ 17592186044416) : Ev (fun k => impl_IsLand.f k w h l) (isLand w h l) := by
  unfold impl_IsLand.f
  simp only [impl_InRange_is, Option.bind_some]
  by_cases c1 : 1 ≤ w ∧ w ≤ 8
  · by_cases c2 : 1 ≤ h ∧ h ≤ 8
    · simp only [decide_eq_true c1, decide_eq_true c2, if_true, wrap_wh c1 c2]
      by_cases c3 : (l.length : Int) = w * h
      · simp only [if_pos c3]
        rw [show isLand w h l = okCells l from by simp [isLand, c1, c2, c3]]
        exact Ev.bind (impl_allIn_ev l hl) (Ev.now _)
      · simp only [if_neg c3]
        rw [show isLand w h l = false from by simp [isLand, c3]]
        exact Ev.now _
    · simp only [decide_eq_true c1, decide_eq_false c2, if_true, Bool.false_eq_true, if_false]
      rw [show isLand w h l = false from by simp only [isLand, c2, false_and, and_false, decide_false, Bool.false_and]]
      exact Ev.now _
  · simp only [decide_eq_false c1, Bool.false_eq_true, if_false]
    rw [show isLand w h l = false from by simp only [isLand, c1, false_and, decide_false, Bool.false_and]]
    exact Ev.now _

def isCell (w h : Int) (l : List Int) (n : Int) : Bool := isLand w h l && decide (0 ≤ n ∧ n ≤ (l.length : Int) - 1)
theorem isCell_true {w h : Int} {l : List Int} {n : Int} (e : isCell w h l n = true) : 0 ≤ n ∧ n < l.length := by
  simp only [isCell, Bool.and_eq_true, decide_eq_true_eq] at e
  omega
theorem isCell_land {w h : Int} {l : List Int} {n : Int} (e : isCell w h l n = true) : isLand w h l = true := by
  simp only [isCell, Bool.and_eq_true] at e
  exact e.1

theorem impl_IsCell_ev (w h : Int) (l : List Int) (n : Int) (hl : l.length ≤ 17592186044416) : Ev (fun k => impl_IsCell.f k w h l n) (isCell w h l n) := by
  unfold impl_IsCell.f
  refine Ev.bind (impl_IsLand_ev w h l hl) ?_
  try dsimp only
  cases e : isLand w h l with
  | false =>
    rw [show isCell w h l n = false from by simp [isCell, e]]
    simp only [Bool.false_eq_true, if_false]
    exact Ev.now _
  | true =>
    rw [show isCell w h l n = decide (0 ≤ n ∧ n ≤ (l.length : Int) - 1) from by simp [isCell, e]]
    simp only [if_true, impl_InRange_is, Option.bind_some, wrapS (x := (l.length : Int) - 1) (by omega) (by omega)]
    exact Ev.now _

def isOpen (w h : Int) (l : List Int) (n : Int) : Bool := isCell w h l n && (rd l n != 2)

theorem impl_IsOpen_ev (w h : Int) (l : List Int) (n : Int) (hl : l.length ≤ 17592186044416) : Ev (fun k => impl_IsOpen.f k w h l n) (isOpen w h l n) := by
  unfold impl_IsOpen.f
  refine Ev.bind (impl_IsCell_ev w h l n hl) ?_
  try dsimp only
  cases e : isCell w h l n with
  | false =>
    rw [show isOpen w h l n = false from by simp [isOpen, e]]
    simp only [Bool.false_eq_true, if_false]
    exact Ev.now _
  | true =>
    obtain ⟨h0, h1⟩ := isCell_true e
    rw [show isOpen w h l n = (rd l n != 2) from by simp [isOpen, e]]
    simp only [if_true, if_pos h0, if_pos h1]
    exact Ev.now _

theorem spec_IsLand_loop (w h : Int) (l : List Int) (hl : l.length ≤ 17592186044416) : ∀ (d : Nat) (i : Int), 0 ≤ i → i + d = l.length → Ev (fun k => spec_IsLand.l0 k i w h l) (okCells (l.drop i.toNat)) := by
  intro d
  induction d with
  | zero =>
    intro i h0 hi
    rw [List.drop_eq_nil_of_le (by omega)]
    refine Ev.step (f := fun _ => some true) (fun k => ?_) (Ev.now _)
    simp only [spec_IsLand.l0]
    rw [if_neg (by omega)]
  | succ d ih =>
    intro i h0 hi
    have hi2 := ih (i + 1) (by omega) (by omega)
    rw [drop_rd l i h0 (by omega)]
    by_cases c : 0 ≤ rd l i ∧ rd l i ≤ 2
    · rw [show okCells (rd l i :: l.drop (i + 1).toNat) = okCells (l.drop (i + 1).toNat) from by simp [okCells, c]]
      refine Ev.step (f := fun k => spec_IsLand.l0 k (i + 1) w h l) (fun k => ?_) hi2
      simp only [spec_IsLand.l0, spec_l1In_is, Option.bind_some, decide_eq_true c, if_true]
      rw [if_pos (by omega), if_pos h0, wrapS (by omega) (by omega)]
    · rw [show okCells (rd l i :: l.drop (i + 1).toNat) = false from by simp [okCells, c]]
      refine Ev.step (f := fun _ => some false) (fun k => ?_) (Ev.now _)
      simp only [spec_IsLand.l0, spec_l1In_is, Option.bind_some, decide_eq_false c, Bool.false_eq_true, if_false]
      rw [if_pos (by omega), if_pos h0]
theorem spec_IsLand_ev (w h : Int) (l : List Int) (hl : l.length ≤ 17592186044416) : Ev (fun k => spec_IsLand.f k w h l) (isLand w h l) := by
  have jt : Ev (fun k => spec_IsLand.j0 k true w h l) false := by
    refine Ev.step (f := fun _ => some false) (fun k => ?_) (Ev.now _)
    simp only [spec_IsLand.j0, if_true]
  unfold spec_IsLand.f
  simp only [spec_l1In_is, Option.bind_some]
  by_cases c1 : 1 ≤ w ∧ w ≤ 8
  · by_cases c2 : 1 ≤ h ∧ h ≤ 8
    · simp only [decide_eq_true c1, decide_eq_true c2, if_true, wrap_wh c1 c2]
      by_cases c3 : (l.length : Int) = w * h
      · rw [show isLand w h l = okCells l from by simp [isLand, c1, c2, c3]]
        simp only [show ((l.length : Int) != w * h) = false from by simp [c3]]
        refine Ev.step (f := fun k => spec_IsLand.l0 k 0 w h l) (fun k => ?_) (spec_IsLand_loop w h l hl l.length 0 (by omega) (by omega))
        simp only [spec_IsLand.j0, Bool.false_eq_true, if_false]
      · rw [show isLand w h l = false from by simp [isLand, c3]]
        simp only [show ((l.length : Int) != w * h) = true from by simp [c3]]
        exact jt
    · simp only [decide_eq_true c1, decide_eq_false c2, if_true, Bool.false_eq_true, if_false]
      rw [show isLand w h l = false from by simp only [isLand, c2, false_and, and_false, decide_false, Bool.false_and]]
      exact jt
  · simp only [decide_eq_false c1, Bool.false_eq_true, if_false]
    rw [show isLand w h l = false from by simp only [isLand, c1, false_and, decide_false, Bool.false_and]]
    exact jt

theorem spec_IsCell_ev (w h : Int) (l : List Int) (n : Int) (hl : l.length ≤ 17592186044416) : Ev (fun k => spec_IsCell.f k w h l n) (isCell w h l n) := by
  unfold spec_IsCell.f
  refine Ev.bind (spec_IsLand_ev w h l hl) ?_
  try dsimp only
  cases e : isLand w h l with
  | false =>
    rw [show isCell w h l n = false from by simp [isCell, e]]
    simp only [Bool.false_eq_true, if_false]
    exact Ev.now _
  | true =>
    rw [show isCell w h l n = decide (0 ≤ n ∧ n ≤ (l.length : Int) - 1) from by simp [isCell, e]]
    simp only [if_true, spec_l1In_is, Option.bind_some, wrapS (x := (l.length : Int) - 1) (by omega) (by omega)]
    exact Ev.now _

theorem spec_IsOpen_ev (w h : Int) (l : List Int) (n : Int) (hl : l.length ≤ 17592186044416) : Ev (fun k => spec_IsOpen.f k w h l n) (isOpen w h l n) := by
  unfold spec_IsOpen.f
  refine Ev.bind (spec_IsCell_ev w h l n hl) ?_
  try dsimp only
  cases e : isCell w h l n with
  | false =>
    rw [show isOpen w h l n = false from by simp [isOpen, e]]
    simp only [Bool.false_eq_true, if_false]
    exact Ev.now _
  | true =>
    obtain ⟨h0, h1⟩ := isCell_true e
    rw [show isOpen w h l n = (rd l n != 2) from by simp [isOpen, e]]
    simp only [if_true, if_pos h0, if_pos h1]
    exact Ev.now _

theorem laws_toIntS_ev (l : List Int) (hl : l.length ≤ 17592186044416) : Ev (fun k => laws_toIntS.f k l) l := by
  have key : ∀ (d : Nat) (o : List Int) (i : Int), 0 ≤ i → o.length = l.length → i + d = l.length → o.take i.toNat = l.take i.toNat → Ev (fun k => laws_toIntS.l0 k l o i) l := by
    intro d
    induction d with
    | zero =>
      intro o i h0 ho hi ht
      refine Ev.step (f := fun _ => some l) (fun k => ?_) (Ev.now _)
      simp only [laws_toIntS.l0]
      rw [if_neg (by omega), take_all i.toNat ho (by omega) ht]
    | succ d ih =>
      intro o i h0 ho hi ht
      refine Ev.step (f := fun k => laws_toIntS.l0 k l (o.set i.toNat (rd l i)) (i + 1)) (fun k => ?_) (ih _ _ (by omega) (by simpa using ho) (by omega) ?_)
      · simp only [laws_toIntS.l0]
        rw [if_pos (by omega), if_pos h0, if_pos (by omega), wrapS (by omega) (by omega)]
      · rw [show (i + 1).toNat = i.toNat + 1 from by omega]
        exact set_take_succ _ o l i.toNat ho (by omega) ht
  refine Ev.congr (f := fun k => laws_toIntS.l0 k l (List.replicate l.length 0) 0) (fun k => ?_) (key l.length _ 0 (by omega) (by simp) (by omega) (by simp))
  unfold laws_toIntS.f
  rw [if_pos (by omega), if_pos (by omega)]
  rfl

theorem laws_eqIntS_ev (l : List Int) (hl : l.length ≤ 281474976710656) : Ev (fun k => laws_eqIntS.f k l l) true := by
  have key : ∀ (d : Nat) (i : Int), 0 ≤ i → i + d = l.length → Ev (fun k => laws_eqIntS.l0 k l l i) true := by
    intro d
    induction d with
    | zero =>
      intro i h0 hi
      refine Ev.step (f := fun _ => some true) (fun k => ?_) (Ev.now _)
      simp only [laws_eqIntS.l0]
      rw [if_neg (by omega)]
    | succ d ih =>
      intro i h0 hi
      refine Ev.step (f := fun k => laws_eqIntS.l0 k l l (i + 1)) (fun k => ?_) (ih _ (by omega) (by omega))
      simp only [laws_eqIntS.l0]
      rw [if_pos (by omega), if_pos h0, if_pos (by omega), wrapS (by omega) (by omega)]
      simp
  refine Ev.congr (f := fun k => laws_eqIntS.l0 k l l 0) (fun k => ?_) (key l.length 0 (by omega) (by omega))
  unfold laws_eqIntS.f
  rw [if_pos rfl]



theorem laws_szLand_is (w h : Int) (l : List Int) (hl : l.length ≤ 9223372036854775807) : laws_szLand.f w h l 1048576 = some (if (l.length : Int) ≤ 1048576 then 1048576 - (l.length : Int) else -1) := by
  unfold laws_szLand.f laws_szIntS.f
  rw [wrapS (by omega) (by omega)]
  by_cases c : (l.length : Int) ≤ 1048576
  · rw [if_neg (by omega), if_pos c]
    simp only [Option.bind_some]
    rw [if_neg (by omega)]
  · rw [if_pos (by omega), if_neg c]
    simp
theorem laws_toLand_ev (w h : Int) (l : List Int) (hl : l.length ≤ 1048576) : Ev (fun k => laws_toLand.f k w h l) (w, h, l) := by
  unfold laws_toLand.f
  exact Ev.bind (laws_toIntS_ev l (by omega)) (Ev.now _)
theorem laws_eqLand_ev (w h : Int) (l : List Int) (hl : l.length ≤ 1048576) : Ev (fun k => laws_eqLand.f k w h l w h l) true := by
  unfold laws_eqLand.f
  simp only [if_true, bne_self_eq_false, Bool.false_eq_true, if_false, eq_self]
  refine Ev.bind (laws_eqIntS_ev l (by omega)) ?_
  simp only [if_true]
  exact Ev.now _

theorem FnExactIsOpen (w h : Int) (l : List Int) (n : Int) (ww : (Lit.int .i64 w).wf = true) (wh : (Lit.int .i64 h).wf = true) (_ : ∀ x ∈ l, (Lit.int .i64 x).wf = true) (hl : l.length ≤ 9223372036854775807) (wn : (Lit.int .i64 n).wf = true) : ∃ k, laws_FnExactIsOpen.f k w h l n = some true := by
  apply Ev.rounds
  unfold laws_FnExactIsOpen.f
  rw [laws_szLand_is w h l hl]
  simp only [Option.bind_some]
  by_cases h1 : (l.length : Int) ≤ 1048576
  · simp only [if_pos h1, if_neg (show ¬ 1048576 - (l.length : Int) < 0 from by omega)]
    refine Ev.bind (laws_toLand_ev w h l (by omega)) ?_
    refine Ev.bind (spec_IsOpen_ev w h l n (by omega)) ?_
    refine Ev.bind (laws_toLand_ev w h l (by omega)) ?_
    refine Ev.bind (impl_IsOpen_ev w h l n (by omega)) ?_
    simp only [if_true, if_false, Bool.false_eq_true, Bool.not_true, Bool.not_false, bne_self_eq_false, eq_self, ite_true, ite_false, reduceIte]
    refine Ev.bind (laws_toLand_ev w h l (by omega)) ?_
    refine Ev.bind (laws_eqLand_ev w h l (by omega)) ?_
    simp only [if_true, if_false, Bool.false_eq_true, Bool.not_true, Bool.not_false, bne_self_eq_false, eq_self, ite_true, ite_false, reduceIte]
    exact Ev.now _
  · simp only [if_neg h1]
    exact Ev.now _

end Go.Proofs.Ytcdiajjadgbngaa.Pure
