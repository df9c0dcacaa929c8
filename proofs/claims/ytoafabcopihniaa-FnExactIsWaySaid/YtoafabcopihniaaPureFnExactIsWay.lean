/- FnExactIsWay answers true, for each land and each list of numbers that an int holds. -/
import Derived.Test.YtoafabcopihniaaQFnExactIsWayx7
set_option linter.unusedVariables false
set_option linter.unusedSimpArgs false
namespace Go.Proofs.Ytoafabcopihniaa.Pure
open Go.RowKit Go.Proofs.Ytoafabcopihniaa.QFnExactIsWay Go.Proofs.YtoafabcopihniaaW.PrintWords Go.Proofs.YtoafabcopihniaaW.PrintLast Go.Proofs.YtoafabcopihniaaW.PrintMore

theorem wrapS {x : Int} (h1 : -9223372036854775808 ≤ x) (h2 : x ≤ 9223372036854775807) : wrap64 x = x := by
  unfold wrap64
  omega
theorem i64wf {x : Int} (h : (Lit.int .i64 x).wf = true) : -9223372036854775808 ≤ x ∧ x ≤ 9223372036854775807 := by
  have h1 : (decide (IntKind.i64.min ≤ x) && decide (x ≤ IntKind.i64.max)) = true := h
  rw [Bool.and_eq_true, decide_eq_true_eq, decide_eq_true_eq] at h1
  exact h1
theorem u8wf {x : Int} (h : (Lit.int .u8 x).wf = true) : 0 ≤ x ∧ x ≤ 255 := by
  have h1 : (decide (IntKind.u8.min ≤ x) && decide (x ≤ IntKind.u8.max)) = true := h
  rw [Bool.and_eq_true, decide_eq_true_eq, decide_eq_true_eq] at h1
  exact h1
/-- What is told of some number of rounds is told of any three together. -/
theorem evNow {α : Type} {g : Option α} {r : α} (h : g = some r) : Ev (fun _ => g) r := ⟨0, fun _ _ => h⟩
theorem one_add_neg (n : Nat) : ((1 : Int) + (n : Int) < 0) = False := by
  simp only [eq_iff_iff, iff_false]
  omega

theorem set_take_succ {α : Type} (d : α) (o l : List α) (n : Nat) (ho : o.length = l.length) (hn : n < l.length) (ht : o.take n = l.take n) : (o.set n (l.getD n d)).take (n + 1) = l.take (n + 1) := by
  apply List.ext_getElem?
  intro j
  have hj := congrArg (fun t => t[j]?) ht
  simp only [List.getElem?_take] at hj ⊢
  by_cases h1 : j < n
  · rw [if_pos h1, if_pos h1] at hj
    rw [if_pos (by omega), if_pos (by omega), List.getElem?_set_ne (by omega)]
    exact hj
  · by_cases h2 : j = n
    · subst h2
      rw [if_pos (by omega), if_pos (by omega), List.getElem?_set_self (by omega), List.getElem?_eq_getElem hn, List.getD_eq_getElem?_getD, List.getElem?_eq_getElem hn]
      rfl
    · rw [if_neg (by omega), if_neg (by omega)]
theorem take_all {α : Type} {o l : List α} (n : Nat) (ho : o.length = l.length) (hn : l.length ≤ n) (ht : o.take n = l.take n) : o = l := by
  rw [List.take_of_length_le (by omega), List.take_of_length_le (by omega)] at ht
  exact ht

def hgo (d : Int) (l : List Int) : Int := l.foldl (fun d v => (d * 1000003 + v % 2147483647 + 13) % 2147483647) d
def hashOf (l : List Int) : Int := hgo 11 l
def khash (a : Int) (l : List Int) : Int := hashOf ([a] ++ l ++ [a])
theorem hgo_range (l : List Int) : ∀ d, 0 ≤ d → d < 2147483647 → 0 ≤ hgo d l ∧ hgo d l < 2147483647 := by
  induction l with
  | nil => intro d h1 h2; exact ⟨h1, h2⟩
  | cons v l ih => intro d h1 h2; exact ih ((d * 1000003 + v % 2147483647 + 13) % 2147483647) (by omega) (by omega)
theorem khash_range (a : Int) (l : List Int) : 0 ≤ khash a l ∧ khash a l < 2147483647 := hgo_range _ 11 (by omega) (by omega)
theorem drop_rd (l : List Int) (i : Int) (h0 : 0 ≤ i) (h1 : i < l.length) : l.drop i.toNat = rd l i :: l.drop (i + 1).toNat := by
  rw [show (i + 1).toNat = i.toNat + 1 from by omega, List.drop_eq_getElem_cons (by omega)]
  congr 1
  simp [rd, List.getD_eq_getElem?_getD, List.getElem?_eq_getElem (show i.toNat < l.length by omega)]
theorem hash_round (d v : Int) (h1 : 0 ≤ d) (h2 : d < 2147483647) : Int.tmod (wrap64 ((wrap64 ((wrap64 (d * 1000003)) + v % 2147483647)) + 13)) 2147483647 = (d * 1000003 + v % 2147483647 + 13) % 2147483647 := by
  rw [wrapS (x := d * 1000003) (by omega) (by omega), wrapS (x := d * 1000003 + v % 2147483647) (by omega) (by omega), wrapS (by omega) (by omega), Int.tmod_eq_emod_of_nonneg (by omega)]

theorem impl_InRange_is (a b c : Int) : impl_InRange.f a b c = some (decide (b ≤ a ∧ a ≤ c)) := by
  unfold impl_InRange.f
  by_cases h : b ≤ a <;> simp [h]

theorem spec_l1In_is (a b c : Int) : spec_l1In.f a b c = some (decide (b ≤ a ∧ a ≤ c)) := by
  unfold spec_l1In.f
  by_cases h : b ≤ a <;> simp [h]

def okCells (l : List Int) : Bool := l.all fun x => decide (0 ≤ x ∧ x ≤ 2)
def isLand (w h : Int) (l : List Int) : Bool := decide ((1 ≤ w ∧ w ≤ 8) ∧ (1 ≤ h ∧ h ≤ 8) ∧ (l.length : Int) = w * h) && okCells l
theorem isLand_true {w h : Int} {l : List Int} (e : isLand w h l = true) : (1 ≤ w ∧ w ≤ 8) ∧ (1 ≤ h ∧ h ≤ 8) ∧ (l.length : Int) = w * h ∧ l.length ≤ 64 ∧ okCells l = true := by
  simp only [isLand, Bool.and_eq_true, decide_eq_true_eq] at e
  obtain ⟨⟨h1, h2, h3⟩, h4⟩ := e
  refine ⟨h1, h2, h3, ?_, h4⟩
  have : w * h ≤ 8 * 8 := Int.mul_le_mul h1.2 h2.2 (by omega) (by omega)
  omega
theorem wrap_wh {w h : Int} (h1 : 1 ≤ w ∧ w ≤ 8) (h2 : 1 ≤ h ∧ h ≤ 8) : wrap64 (w * h) = w * h := by
  have u : w * h ≤ 8 * 8 := Int.mul_le_mul h1.2 h2.2 (by omega) (by omega)
  have v : 0 ≤ w * h := Int.mul_nonneg (by omega) (by omega)
  exact wrapS (by omega) (by omega)

def isCell (w h : Int) (l : List Int) (n : Int) : Bool := isLand w h l && decide (0 ≤ n ∧ n ≤ (l.length : Int) - 1)
theorem isCell_true {w h : Int} {l : List Int} {n : Int} (e : isCell w h l n = true) : 0 ≤ n ∧ n < l.length := by
  simp only [isCell, Bool.and_eq_true, decide_eq_true_eq] at e
  omega
theorem isCell_land {w h : Int} {l : List Int} {n : Int} (e : isCell w h l n = true) : isLand w h l = true := by
  simp only [isCell, Bool.and_eq_true] at e
  exact e.1

def isOpen (w h : Int) (l : List Int) (n : Int) : Bool := isCell w h l n && (rd l n != 2)

def absI (x : Int) : Int := if x < 0 then -x else x
def apart (w h : Int) (l : List Int) (a b : Int) : Int := if isCell w h l a = true ∧ isCell w h l b = true then absI (a % w - b % w) + absI (a / w - b / w) else -1
theorem cell_bounds {w h : Int} {l : List Int} {a : Int} (e : isCell w h l a = true) : 1 ≤ w ∧ w ≤ 8 ∧ 0 ≤ a ∧ a < 64 ∧ 0 ≤ a % w ∧ a % w < 8 ∧ 0 ≤ a / w ∧ a / w < 64 := by
  obtain ⟨h1, _, _, h4, _⟩ := isLand_true (isCell_land e)
  obtain ⟨h5, h6⟩ := isCell_true e
  have m1 := Int.emod_nonneg a (show w ≠ 0 by omega)
  have m2 := Int.emod_lt_of_pos a (show 0 < w by omega)
  have d1 := Int.ediv_nonneg h5 (show 0 ≤ w by omega)
  have d2 : a / w ≤ a := Int.ediv_le_self w h5
  exact ⟨h1.1, h1.2, h5, by omega, m1, by omega, d1, by omega⟩

/-- The open cells beside a cell. -/
def near (w : Int) (l : List Int) (n : Int) : List Int :=
  (if w ≤ n ∧ rd l (n - w) ≠ 2 then [n - w] else []) ++ ((if 0 < n % w ∧ rd l (n - 1) ≠ 2 then [n - 1] else []) ++ ((if n % w < w - 1 ∧ rd l (n + 1) ≠ 2 then [n + 1] else []) ++ (if n + w < l.length ∧ rd l (n + w) ≠ 2 then [n + w] else [])))
theorem near_length (w : Int) (l : List Int) (n : Int) : (near w l n).length ≤ 4 := by
  unfold near
  split <;> split <;> split <;> split <;> simp
theorem w8 {w : Int} (h : 1 ≤ w ∧ w ≤ 8) : w = 1 ∨ w = 2 ∨ w = 3 ∨ w = 4 ∨ w = 5 ∨ w = 6 ∨ w = 7 ∨ w = 8 := by omega
def step (w n m : Int) : Int := absI (n % w - m % w) + absI (n / w - m / w)
theorem step_up (w n : Int) (h : 1 ≤ w ∧ w ≤ 8) : step w n (n - w) = 1 := by
  unfold step absI
  rcases w8 h with rfl | rfl | rfl | rfl | rfl | rfl | rfl | rfl <;> split <;> split <;> omega
theorem step_down (w n : Int) (h : 1 ≤ w ∧ w ≤ 8) : step w n (n + w) = 1 := by
  unfold step absI
  rcases w8 h with rfl | rfl | rfl | rfl | rfl | rfl | rfl | rfl <;> split <;> split <;> omega
theorem step_left (w n : Int) (h : 1 ≤ w ∧ w ≤ 8) : step w n (n - 1) = 1 ↔ (0 < n % w ∨ w = 1) := by
  unfold step absI
  rcases w8 h with rfl | rfl | rfl | rfl | rfl | rfl | rfl | rfl <;> split <;> split <;> omega
theorem step_right (w n : Int) (h : 1 ≤ w ∧ w ≤ 8) : step w n (n + 1) = 1 ↔ (n % w < w - 1 ∨ w = 1) := by
  unfold step absI
  rcases w8 h with rfl | rfl | rfl | rfl | rfl | rfl | rfl | rfl <;> split <;> split <;> omega
theorem step_four (w n m : Int) (h : 1 ≤ w ∧ w ≤ 8) (e : step w n m = 1) : m = n - w ∨ m = n - 1 ∨ m = n + 1 ∨ m = n + w := by
  unfold step absI at e
  rcases w8 h with rfl | rfl | rfl | rfl | rfl | rfl | rfl | rfl <;> split at e <;> split at e <;> omega
theorem step_comm (w n m : Int) : step w n m = step w m n := by
  unfold step absI
  split <;> split <;> split <;> split <;> omega
theorem apart_step {w h : Int} {l : List Int} {a b : Int} (ha : isCell w h l a = true) (hb : isCell w h l b = true) : apart w h l a b = step w a b := by
  unfold apart step
  rw [if_pos ⟨ha, hb⟩]
theorem isCell_mk {w h : Int} {l : List Int} {n : Int} (hl : isLand w h l = true) (h0 : 0 ≤ n) (h1 : n < l.length) : isCell w h l n = true := by
  simp only [isCell, hl, Bool.true_and, decide_eq_true_eq]
  omega
theorem isOpen_iff {w h : Int} {l : List Int} (hl : isLand w h l = true) (n : Int) : isOpen w h l n = true ↔ 0 ≤ n ∧ n < l.length ∧ rd l n ≠ 2 := by
  simp only [isOpen, isCell, hl, Bool.true_and, Bool.and_eq_true, decide_eq_true_eq, bne_iff_ne]
  omega
theorem mod_len {w h : Int} {l : List Int} (hl : isLand w h l = true) (n : Int) (h0 : 0 ≤ n) (h1 : n < l.length) (h2 : n % w < w - 1) : n + 1 < l.length := by
  obtain ⟨hw, hh, hlen, _, _⟩ := isLand_true hl
  have e := Int.emod_add_mul_ediv n w
  have hdiv : n / w < h := by
    refine Int.ediv_lt_of_lt_mul (by omega) ?_
    rw [Int.mul_comm]
    omega
  have h3 : w * (n / w + 1) ≤ w * h := Int.mul_le_mul_of_nonneg_left (by omega) (by omega)
  rw [Int.mul_add, Int.mul_one] at h3
  omega
/-- What is beside a cell: what is open, one step away. -/
theorem mem_near {w h : Int} {l : List Int} (hl : isLand w h l = true) {n : Int} (h0 : 0 ≤ n) (h1 : n < l.length) (m : Int) : m ∈ near w l n ↔ isOpen w h l m = true ∧ step w n m = 1 := by
  obtain ⟨hw, hh, hlen, _, _⟩ := isLand_true hl
  have m1 := Int.emod_nonneg n (show w ≠ 0 by omega)
  have m2 : n % w ≤ n := by
    have := Int.emod_add_mul_ediv n w
    have := Int.mul_nonneg (show 0 ≤ w by omega) (Int.ediv_nonneg h0 (show 0 ≤ w by omega))
    omega
  have hx : m ∈ near w l n ↔ (m = n - w ∧ w ≤ n ∧ rd l (n - w) ≠ 2) ∨ (m = n - 1 ∧ 0 < n % w ∧ rd l (n - 1) ≠ 2) ∨ (m = n + 1 ∧ n % w < w - 1 ∧ rd l (n + 1) ≠ 2) ∨ (m = n + w ∧ n + w < l.length ∧ rd l (n + w) ≠ 2) := by
    unfold near
    simp only [List.mem_append]
    have q : ∀ (c : Prop) [Decidable c] (x : Int), m ∈ (if c then [x] else []) ↔ (m = x ∧ c) := by
      intro c _ x
      by_cases hc : c <;> simp [hc]
    rw [q, q, q, q]
  rw [hx, isOpen_iff hl]
  constructor
  · rintro (⟨rfl, h2, h3⟩ | ⟨rfl, h2, h3⟩ | ⟨rfl, h2, h3⟩ | ⟨rfl, h2, h3⟩)
    · exact ⟨⟨by omega, by omega, h3⟩, step_up w n hw⟩
    · exact ⟨⟨by omega, by omega, h3⟩, (step_left w n hw).2 (Or.inl h2)⟩
    · exact ⟨⟨by omega, mod_len hl n h0 h1 h2, h3⟩, (step_right w n hw).2 (Or.inl h2)⟩
    · exact ⟨⟨by omega, h2, h3⟩, step_down w n hw⟩
  · rintro ⟨⟨h2, h3, h4⟩, h5⟩
    rcases step_four w n m hw h5 with rfl | rfl | rfl | rfl
    · exact Or.inl ⟨rfl, by omega, h4⟩
    · rcases (step_left w n hw).1 h5 with h6 | h6
      · exact Or.inr (Or.inl ⟨rfl, h6, h4⟩)
      · subst h6
        exact Or.inl ⟨rfl, by omega, h4⟩
    · rcases (step_right w n hw).1 h5 with h6 | h6
      · exact Or.inr (Or.inr (Or.inl ⟨rfl, h6, h4⟩))
      · subst h6
        exact Or.inr (Or.inr (Or.inr ⟨rfl, h3, h4⟩))
    · exact Or.inr (Or.inr (Or.inr ⟨rfl, h3, h4⟩))
theorem near_asc (w : Int) (l : List Int) (n : Int) (hw : 1 ≤ w) : (near w l n).Pairwise (· < ·) := by
  unfold near
  by_cases hw1 : w = 1
  · subst hw1
    rw [if_neg (c := 0 < n % 1 ∧ rd l (n - 1) ≠ 2) (by omega), if_neg (c := n % 1 < 1 - 1 ∧ rd l (n + 1) ≠ 2) (by omega)]
    split <;> split <;> simp
    omega
  · split <;> split <;> split <;> split <;> simp <;> omega

theorem impl_allIn_ev (l : List Int) (hl : l.length ≤ 17592186044416) : Ev (fun k => impl_allIn.f k l 0 2) (okCells l) := by
  have key : ∀ (d : Nat) (i : Int), 0 ≤ i → i + d = l.length → Ev (fun k => impl_allIn.l0 k 0 2 l (l.length : Int) i) (okCells (l.drop i.toNat)) := by
    intro d
    induction d with
    | zero =>
      intro i h0 hi
      rw [List.drop_eq_nil_of_le (by omega)]
      refine Ev.step (f := fun _ => some true) (fun k => ?_) (Ev.now _)
      simp only [impl_allIn.l0]
      rw [if_neg (by omega)]
    | succ d ih =>
      intro i h0 hi
      have hi2 := ih (i + 1) (by omega) (by omega)
      rw [drop_rd l i h0 (by omega)]
      by_cases c : 0 ≤ rd l i ∧ rd l i ≤ 2
      · rw [show okCells (rd l i :: l.drop (i + 1).toNat) = okCells (l.drop (i + 1).toNat) from by simp [okCells, c]]
        refine Ev.step (f := fun k => impl_allIn.l0 k 0 2 l (l.length : Int) (i + 1)) (fun k => ?_) hi2
        simp only [impl_allIn.l0, impl_InRange_is, Option.bind_some, decide_eq_true c, if_true]
        rw [if_pos (by omega), if_pos h0, if_pos (by omega), wrapS (by omega) (by omega)]
      · rw [show okCells (rd l i :: l.drop (i + 1).toNat) = false from by simp [okCells, c]]
        refine Ev.step (f := fun _ => some false) (fun k => ?_) (Ev.now _)
        simp only [impl_allIn.l0, impl_InRange_is, Option.bind_some, decide_eq_false c, Bool.false_eq_true, if_false]
        rw [if_pos (by omega), if_pos h0, if_pos (by omega)]
  exact key l.length 0 (by omega) (by omega)
theorem impl_IsLand_ev (w h : Int) (l : List Int) (hl : l.length ≤ 17592186044416) : Ev (fun k => impl_IsLand.f k w h l) (isLand w h l) := by
  unfold impl_IsLand.f
  simp only [impl_InRange_is, Option.bind_some]
  by_cases c1 : 1 ≤ w ∧ w ≤ 8
  · by_cases c2 : 1 ≤ h ∧ h ≤ 8
    · simp only [decide_eq_true c1, decide_eq_true c2, if_true, wrap_wh c1 c2]
      by_cases c3 : (l.length : Int) = w * h
      · simp only [if_pos c3]
        rw [show isLand w h l = okCells l from by simp [isLand, c1, c2, c3]]
        exact Ev.bind (impl_allIn_ev l hl) (Ev.now _)
      · simp only [if_neg c3]
        rw [show isLand w h l = false from by simp [isLand, c3]]
        exact Ev.now _
    · simp only [decide_eq_true c1, decide_eq_false c2, if_true, Bool.false_eq_true, if_false]
      rw [show isLand w h l = false from by simp only [isLand, c2, false_and, and_false, decide_false, Bool.false_and]]
      exact Ev.now _
  · simp only [decide_eq_false c1, Bool.false_eq_true, if_false]
    rw [show isLand w h l = false from by simp only [isLand, c1, false_and, decide_false, Bool.false_and]]
    exact Ev.now _

theorem impl_IsCell_ev (w h : Int) (l : List Int) (n : Int) (hl : l.length ≤ 17592186044416) : Ev (fun k => impl_IsCell.f k w h l n) (isCell w h l n) := by
  unfold impl_IsCell.f
  refine Ev.bind (impl_IsLand_ev w h l hl) ?_
  try dsimp only
  cases e : isLand w h l with
  | false =>
    rw [show isCell w h l n = false from by simp [isCell, e]]
    simp only [Bool.false_eq_true, if_false]
    exact Ev.now _
  | true =>
    rw [show isCell w h l n = decide (0 ≤ n ∧ n ≤ (l.length : Int) - 1) from by simp [isCell, e]]
    simp only [if_true, impl_InRange_is, Option.bind_some, wrapS (x := (l.length : Int) - 1) (by omega) (by omega)]
    exact Ev.now _

theorem impl_IsOpen_ev (w h : Int) (l : List Int) (n : Int) (hl : l.length ≤ 17592186044416) : Ev (fun k => impl_IsOpen.f k w h l n) (isOpen w h l n) := by
  unfold impl_IsOpen.f
  refine Ev.bind (impl_IsCell_ev w h l n hl) ?_
  try dsimp only
  cases e : isCell w h l n with
  | false =>
    rw [show isOpen w h l n = false from by simp [isOpen, e]]
    simp only [Bool.false_eq_true, if_false]
    exact Ev.now _
  | true =>
    obtain ⟨h0, h1⟩ := isCell_true e
    rw [show isOpen w h l n = (rd l n != 2) from by simp [isOpen, e]]
    simp only [if_true, if_pos h0, if_pos h1]
    exact Ev.now _

theorem impl_Apart_ev (w h : Int) (l : List Int) (a b : Int) (hl : l.length ≤ 17592186044416) : Ev (fun k => impl_Apart.f k w h l a b) (apart w h l a b) := by
  have jt : Ev (fun k => impl_Apart.j0 k a b true w h l) (-1) := by
    refine Ev.step (f := fun _ => some (-1)) (fun k => ?_) (Ev.now _)
    simp only [impl_Apart.j0, if_true]
  unfold impl_Apart.f
  refine Ev.bind (impl_IsCell_ev w h l a hl) ?_
  try dsimp only
  cases ea : isCell w h l a with
  | false =>
    rw [show apart w h l a b = -1 from by simp [apart, ea]]
    simp only [Bool.false_eq_true, if_false]
    exact jt
  | true =>
    simp only [if_true]
    refine Ev.bind (impl_IsCell_ev w h l b hl) ?_
    try dsimp only
    cases eb : isCell w h l b with
    | false =>
      rw [show apart w h l a b = -1 from by simp [apart, eb]]
      exact jt
    | true =>
      obtain ⟨w1, w2, a1, a2, a3, a4, a5, a6⟩ := cell_bounds ea
      obtain ⟨_, _, b1, b2, b3, b4, b5, b6⟩ := cell_bounds eb
      rw [show apart w h l a b = absI (a % w - b % w) + absI (a / w - b / w) from by simp [apart, ea, eb]]
      refine Ev.step (f := fun _ => some (absI (a % w - b % w) + absI (a / w - b / w))) (fun k => ?_) (Ev.now _)
      have e1 := Int.tmod_eq_emod_of_nonneg a1 (b := w)
      have e2 := Int.tmod_eq_emod_of_nonneg b1 (b := w)
      have e3 := Int.tdiv_eq_ediv_of_nonneg a1 (b := w)
      have e4 := Int.tdiv_eq_ediv_of_nonneg b1 (b := w)
      simp only [impl_Apart.j0, Bool.not_true, Bool.false_eq_true, if_false, impl_size.f, Option.bind_some, e1, e2, e3, e4]
      rw [if_neg (by omega)]
      generalize a % w = p at *
      generalize b % w = q at *
      generalize a / w = r at *
      generalize b / w = s at *
      rw [wrapS (x := p - q) (by omega) (by omega), wrapS (x := r) (by omega) (by omega), wrapS (x := s) (by omega) (by omega), wrapS (x := r - s) (by omega) (by omega), wrapS (x := -(p - q)) (by omega) (by omega), wrapS (x := -(r - s)) (by omega) (by omega)]
      have f1 : mx (p - q) (-(p - q)) = absI (p - q) := by unfold mx absI; split <;> split <;> omega
      have f2 : mx (r - s) (-(r - s)) = absI (r - s) := by unfold mx absI; split <;> split <;> omega
      rw [f1, f2]
      have g1 : 0 ≤ absI (p - q) ∧ absI (p - q) ≤ 100 := by unfold absI; split <;> omega
      have g2 : 0 ≤ absI (r - s) ∧ absI (r - s) ≤ 100 := by unfold absI; split <;> omega
      rw [wrapS (by omega) (by omega)]

theorem compact_asc (l : List Int) (h : l.Pairwise (· < ·)) : Go.Lib.compact l = l := by
  refine Go.Lib.compact_all l (fun j hj => ?_)
  simp only [Go.Lib.keeps, decide_eq_true_eq]
  by_cases h0 : j = 0
  · exact Or.inl h0
  · refine Or.inr ?_
    have hlt := List.pairwise_iff_getElem.1 h (j - 1) j (by omega) hj (by omega)
    rw [getElem!_pos l.toArray j (by simpa using hj), getElem!_pos l.toArray (j - 1) (by simp; omega)]
    simp only [List.getElem_toArray]
    omega
theorem compact_two (x : Int) : Go.Lib.compact [x, x] = [x] := by
  simp [Go.Lib.compact, Go.Lib.compactUpTo, Go.Lib.keeps, List.range_succ]
theorem compact_four (x y : Int) (h : x ≠ y) : Go.Lib.compact [x, x, y, y] = [x, y] := by
  simp [Go.Lib.compact, Go.Lib.compactUpTo, Go.Lib.keeps, List.range_succ, h, Ne.symm h]
def nearOk (w h : Int) (l : List Int) (n m : Int) : Bool := isOpen w h l m && (apart w h l n m == 1)
theorem impl_Near_loop (w h : Int) (l : List Int) (n : Int) (hl : l.length ≤ 64) (ys : List Int) (hys : ys.length ≤ 4) : ∀ (d : Nat) (o : List Int) (i : Int), 0 ≤ i → i + d = ys.length → o.length ≤ i.toNat → Ev (fun k => impl_Near.l0 k n o ys (ys.length : Int) i w h l) (Go.Lib.compact (o ++ (ys.drop i.toNat).filter (nearOk w h l n))) := by
  intro d
  induction d with
  | zero =>
    intro o i h0 hi ho
    rw [List.drop_eq_nil_of_le (by omega), List.filter_nil, List.append_nil]
    refine Ev.step (f := fun _ => some (Go.Lib.compact o)) (fun k => ?_) (Ev.now _)
    simp only [impl_Near.l0, slices_Compact_int_int.f, Option.bind_some]
    rw [if_neg (by omega)]
  | succ d ih =>
    intro o i h0 hi ho
    have hw : wrap64 (i + 1) = i + 1 := wrapS (by omega) (by omega)
    rw [drop_rd ys i h0 (by omega), List.filter_cons]
    by_cases c1 : isOpen w h l (rd ys i) = true
    · by_cases c2 : apart w h l n (rd ys i) = 1
      · rw [if_pos (by simp [nearOk, c1, c2])]
        have hi2 := ih (o ++ [rd ys i]) (i + 1) (by omega) (by omega) (by simp; omega)
        rw [List.append_assoc, List.singleton_append] at hi2
        refine Ev.step (f := fun k => (impl_IsOpen.f k w h l (rd ys i)).bind fun t => if t = true then (impl_Apart.f k w h l n (rd ys i)).bind fun t2 => (if t2 = 1 then impl_Near.l0 k n (o ++ [rd ys i]) ys (ys.length : Int) (i + 1) w h l else impl_Near.l0 k n o ys (ys.length : Int) (i + 1) w h l) else impl_Near.l0 k n o ys (ys.length : Int) (i + 1) w h l) (fun k => ?_) (Ev.bind (impl_IsOpen_ev w h l _ (by omega)) ?_)
        · simp only [impl_Near.l0, hw]
          rw [if_pos (by omega), if_pos h0, if_pos (by omega)]
          simp only [if_pos (show o.length < 17592186044416 from by omega)]
        · rw [c1]
          simp only [if_true]
          refine Ev.bind (impl_Apart_ev w h l n _ (by omega)) ?_
          rw [c2]
          simp only [if_true]
          exact hi2
      · rw [if_neg (by simp [nearOk, c2])]
        have hi2 := ih o (i + 1) (by omega) (by omega) (by omega)
        refine Ev.step (f := fun k => (impl_IsOpen.f k w h l (rd ys i)).bind fun t => if t = true then (impl_Apart.f k w h l n (rd ys i)).bind fun t2 => (if t2 = 1 then impl_Near.l0 k n (o ++ [rd ys i]) ys (ys.length : Int) (i + 1) w h l else impl_Near.l0 k n o ys (ys.length : Int) (i + 1) w h l) else impl_Near.l0 k n o ys (ys.length : Int) (i + 1) w h l) (fun k => ?_) (Ev.bind (impl_IsOpen_ev w h l _ (by omega)) ?_)
        · simp only [impl_Near.l0, hw]
          rw [if_pos (by omega), if_pos h0, if_pos (by omega)]
          simp only [if_pos (show o.length < 17592186044416 from by omega)]
        · rw [c1]
          simp only [if_true]
          refine Ev.bind (impl_Apart_ev w h l n _ (by omega)) ?_
          simp only [if_neg c2]
          exact hi2
    · rw [if_neg (by simp [nearOk, c1])]
      have hi2 := ih o (i + 1) (by omega) (by omega) (by omega)
      rw [Bool.not_eq_true] at c1
      refine Ev.step (f := fun k => (impl_IsOpen.f k w h l (rd ys i)).bind fun t => if t = true then (impl_Apart.f k w h l n (rd ys i)).bind fun t2 => (if t2 = 1 then impl_Near.l0 k n (o ++ [rd ys i]) ys (ys.length : Int) (i + 1) w h l else impl_Near.l0 k n o ys (ys.length : Int) (i + 1) w h l) else impl_Near.l0 k n o ys (ys.length : Int) (i + 1) w h l) (fun k => ?_) (Ev.bind (impl_IsOpen_ev w h l _ (by omega)) ?_)
      · simp only [impl_Near.l0, hw]
        rw [if_pos (by omega), if_pos h0, if_pos (by omega)]
        simp only [if_pos (show o.length < 17592186044416 from by omega)]
      · rw [c1]
        simp only [Bool.false_eq_true, if_false]
        exact hi2
/-- The four that are tried, those that are beside, each once. -/
theorem near_filter {w h : Int} {l : List Int} {n : Int} (hc : isCell w h l n = true) : Go.Lib.compact ([n - w, n - 1, n + 1, n + w].filter (nearOk w h l n)) = near w l n := by
  have hl := isCell_land hc
  obtain ⟨hw, hh, hlen, h64, _⟩ := isLand_true hl
  obtain ⟨h0, h1⟩ := isCell_true hc
  have m1 := Int.emod_nonneg n (show w ≠ 0 by omega)
  have m2 : n % w ≤ n := by
    have := Int.emod_add_mul_ediv n w
    have := Int.mul_nonneg (show 0 ≤ w by omega) (Int.ediv_nonneg h0 (show 0 ≤ w by omega))
    omega
  have ok : ∀ m, nearOk w h l n m = true ↔ (0 ≤ m ∧ m < l.length ∧ rd l m ≠ 2) ∧ step w n m = 1 := by
    intro m
    unfold nearOk
    rw [Bool.and_eq_true, isOpen_iff hl, beq_iff_eq]
    constructor
    · rintro ⟨ho, ha⟩
      exact ⟨ho, by rw [← apart_step hc (isCell_mk hl ho.1 ho.2.1)]; exact ha⟩
    · rintro ⟨ho, ha⟩
      exact ⟨ho, by rw [apart_step hc (isCell_mk hl ho.1 ho.2.1)]; exact ha⟩
  by_cases w1 : w = 1
  · subst w1
    have hA : nearOk 1 h l n (n - 1) = decide ((1 : Int) ≤ n ∧ rd l (n - 1) ≠ 2) := by
      rw [Bool.eq_iff_iff, ok, decide_eq_true_eq]
      have := step_up 1 n hw
      constructor
      · rintro ⟨⟨a, b, c⟩, _⟩; exact ⟨by omega, c⟩
      · rintro ⟨a, c⟩; exact ⟨⟨by omega, by omega, c⟩, this⟩
    have hD : nearOk 1 h l n (n + 1) = decide (n + 1 < (l.length : Int) ∧ rd l (n + 1) ≠ 2) := by
      rw [Bool.eq_iff_iff, ok, decide_eq_true_eq]
      have := step_down 1 n hw
      constructor
      · rintro ⟨⟨a, b, c⟩, _⟩; exact ⟨b, c⟩
      · rintro ⟨a, c⟩; exact ⟨⟨by omega, a, c⟩, this⟩
    unfold near
    rw [if_neg (c := 0 < n % 1 ∧ rd l (n - 1) ≠ 2) (by omega), if_neg (c := n % 1 < 1 - 1 ∧ rd l (n + 1) ≠ 2) (by omega)]
    simp only [List.filter_cons, List.filter_nil, hA, hD]
    by_cases cA : (1 : Int) ≤ n ∧ rd l (n - 1) ≠ 2 <;> by_cases cD : n + 1 < (l.length : Int) ∧ rd l (n + 1) ≠ 2
    · simp only [decide_eq_true cA, decide_eq_true cD, if_true, if_pos cA, if_pos cD]
      rw [compact_four _ _ (by omega)]
      rfl
    · simp only [decide_eq_true cA, decide_eq_false cD, if_true, if_pos cA, if_neg cD, Bool.false_eq_true, if_false]
      rw [compact_two]
      rfl
    · simp only [decide_eq_false cA, decide_eq_true cD, if_true, if_neg cA, if_pos cD, Bool.false_eq_true, if_false]
      rw [compact_two]
      rfl
    · simp only [decide_eq_false cA, decide_eq_false cD, if_neg cA, if_neg cD, Bool.false_eq_true, if_false]
      rfl
  · have hA : nearOk w h l n (n - w) = decide (w ≤ n ∧ rd l (n - w) ≠ 2) := by
      rw [Bool.eq_iff_iff, ok, decide_eq_true_eq]
      have := step_up w n hw
      constructor
      · rintro ⟨⟨a, b, c⟩, _⟩; exact ⟨by omega, c⟩
      · rintro ⟨a, c⟩; exact ⟨⟨by omega, by omega, c⟩, this⟩
    have hB : nearOk w h l n (n - 1) = decide (0 < n % w ∧ rd l (n - 1) ≠ 2) := by
      rw [Bool.eq_iff_iff, ok, decide_eq_true_eq, step_left w n hw]
      constructor
      · rintro ⟨⟨a, b, c⟩, d⟩; exact ⟨by omega, c⟩
      · rintro ⟨a, c⟩; exact ⟨⟨by omega, by omega, c⟩, Or.inl a⟩
    have hC : nearOk w h l n (n + 1) = decide (n % w < w - 1 ∧ rd l (n + 1) ≠ 2) := by
      rw [Bool.eq_iff_iff, ok, decide_eq_true_eq, step_right w n hw]
      constructor
      · rintro ⟨⟨a, b, c⟩, d⟩; exact ⟨by omega, c⟩
      · rintro ⟨a, c⟩; exact ⟨⟨by omega, mod_len hl n h0 h1 a, c⟩, Or.inl a⟩
    have hD : nearOk w h l n (n + w) = decide (n + w < (l.length : Int) ∧ rd l (n + w) ≠ 2) := by
      rw [Bool.eq_iff_iff, ok, decide_eq_true_eq]
      have := step_down w n hw
      constructor
      · rintro ⟨⟨a, b, c⟩, _⟩; exact ⟨b, c⟩
      · rintro ⟨a, c⟩; exact ⟨⟨by omega, a, c⟩, this⟩
    have e : [n - w, n - 1, n + 1, n + w].filter (nearOk w h l n) = near w l n := by
      unfold near
      simp only [List.filter_cons, List.filter_nil, hA, hB, hC, hD, decide_eq_true_eq]
      split <;> split <;> split <;> split <;> rfl
    rw [e]
    exact compact_asc _ (near_asc w l n hw.1)
theorem impl_Near_ev (w h : Int) (l : List Int) (n : Int) (hl : l.length ≤ 1048576) (hw : -9223372036854775808 ≤ w ∧ w ≤ 9223372036854775807) : Ev (fun k => impl_Near.f k w h l n) (if isCell w h l n = true then near w l n else []) := by
  unfold impl_Near.f
  refine Ev.bind (impl_IsCell_ev w h l n (by omega)) ?_
  by_cases hc : isCell w h l n = true
  · have hld := isCell_land hc
    obtain ⟨hw8, hh, hlen, h64, _⟩ := isLand_true hld
    obtain ⟨h0, h1⟩ := isCell_true hc
    rw [hc]
    simp only [if_true, Option.bind_some]
    rw [wrapS (x := n - w) (by omega) (by omega), wrapS (x := n - 1) (by omega) (by omega), wrapS (x := n + 1) (by omega) (by omega), wrapS (x := n + w) (by omega) (by omega)]
    have hh := impl_Near_loop w h l n h64 [n - w, n - 1, n + 1, n + w] (by simp) 4 [] 0 (by omega) (by simp) (by simp)
    rw [show (0 : Int).toNat = 0 from rfl, List.drop_zero, List.nil_append, near_filter hc] at hh
    exact hh
  · rw [Bool.not_eq_true] at hc
    rw [hc]
    simp only [Bool.false_eq_true, if_false]
    exact Ev.now _

theorem spec_IsLand_loop (w h : Int) (l : List Int) (hl : l.length ≤ 17592186044416) : ∀ (d : Nat) (i : Int), 0 ≤ i → i + d = l.length → Ev (fun k => spec_IsLand.l0 k i w h l) (okCells (l.drop i.toNat)) := by
  intro d
  induction d with
  | zero =>
    intro i h0 hi
    rw [List.drop_eq_nil_of_le (by omega)]
    refine Ev.step (f := fun _ => some true) (fun k => ?_) (Ev.now _)
    simp only [spec_IsLand.l0]
    rw [if_neg (by omega)]
  | succ d ih =>
    intro i h0 hi
    have hi2 := ih (i + 1) (by omega) (by omega)
    rw [drop_rd l i h0 (by omega)]
    by_cases c : 0 ≤ rd l i ∧ rd l i ≤ 2
    · rw [show okCells (rd l i :: l.drop (i + 1).toNat) = okCells (l.drop (i + 1).toNat) from by simp [okCells, c]]
      refine Ev.step (f := fun k => spec_IsLand.l0 k (i + 1) w h l) (fun k => ?_) hi2
      simp only [spec_IsLand.l0, spec_l1In_is, Option.bind_some, decide_eq_true c, if_true]
      rw [if_pos (by omega), if_pos h0, wrapS (by omega) (by omega)]
    · rw [show okCells (rd l i :: l.drop (i + 1).toNat) = false from by simp [okCells, c]]
      refine Ev.step (f := fun _ => some false) (fun k => ?_) (Ev.now _)
      simp only [spec_IsLand.l0, spec_l1In_is, Option.bind_some, decide_eq_false c, Bool.false_eq_true, if_false]
      rw [if_pos (by omega), if_pos h0]
theorem spec_IsLand_ev (w h : Int) (l : List Int) (hl : l.length ≤ 17592186044416) : Ev (fun k => spec_IsLand.f k w h l) (isLand w h l) := by
  have jt : Ev (fun k => spec_IsLand.j0 k true w h l) false := by
    refine Ev.step (f := fun _ => some false) (fun k => ?_) (Ev.now _)
    simp only [spec_IsLand.j0, if_true]
  unfold spec_IsLand.f
  simp only [spec_l1In_is, Option.bind_some]
  by_cases c1 : 1 ≤ w ∧ w ≤ 8
  · by_cases c2 : 1 ≤ h ∧ h ≤ 8
    · simp only [decide_eq_true c1, decide_eq_true c2, if_true, wrap_wh c1 c2]
      by_cases c3 : (l.length : Int) = w * h
      · rw [show isLand w h l = okCells l from by simp [isLand, c1, c2, c3]]
        simp only [show ((l.length : Int) != w * h) = false from by simp [c3]]
        refine Ev.step (f := fun k => spec_IsLand.l0 k 0 w h l) (fun k => ?_) (spec_IsLand_loop w h l hl l.length 0 (by omega) (by omega))
        simp only [spec_IsLand.j0, Bool.false_eq_true, if_false]
      · rw [show isLand w h l = false from by simp [isLand, c3]]
        simp only [show ((l.length : Int) != w * h) = true from by simp [c3]]
        exact jt
    · simp only [decide_eq_true c1, decide_eq_false c2, if_true, Bool.false_eq_true, if_false]
      rw [show isLand w h l = false from by simp only [isLand, c2, false_and, and_false, decide_false, Bool.false_and]]
      exact jt
  · simp only [decide_eq_false c1, Bool.false_eq_true, if_false]
    rw [show isLand w h l = false from by simp only [isLand, c1, false_and, decide_false, Bool.false_and]]
    exact jt

theorem spec_IsCell_ev (w h : Int) (l : List Int) (n : Int) (hl : l.length ≤ 17592186044416) : Ev (fun k => spec_IsCell.f k w h l n) (isCell w h l n) := by
  unfold spec_IsCell.f
  refine Ev.bind (spec_IsLand_ev w h l hl) ?_
  try dsimp only
  cases e : isLand w h l with
  | false =>
    rw [show isCell w h l n = false from by simp [isCell, e]]
    simp only [Bool.false_eq_true, if_false]
    exact Ev.now _
  | true =>
    rw [show isCell w h l n = decide (0 ≤ n ∧ n ≤ (l.length : Int) - 1) from by simp [isCell, e]]
    simp only [if_true, spec_l1In_is, Option.bind_some, wrapS (x := (l.length : Int) - 1) (by omega) (by omega)]
    exact Ev.now _

theorem spec_IsOpen_ev (w h : Int) (l : List Int) (n : Int) (hl : l.length ≤ 17592186044416) : Ev (fun k => spec_IsOpen.f k w h l n) (isOpen w h l n) := by
  unfold spec_IsOpen.f
  refine Ev.bind (spec_IsCell_ev w h l n hl) ?_
  try dsimp only
  cases e : isCell w h l n with
  | false =>
    rw [show isOpen w h l n = false from by simp [isOpen, e]]
    simp only [Bool.false_eq_true, if_false]
    exact Ev.now _
  | true =>
    obtain ⟨h0, h1⟩ := isCell_true e
    rw [show isOpen w h l n = (rd l n != 2) from by simp [isOpen, e]]
    simp only [if_true, if_pos h0, if_pos h1]
    exact Ev.now _

theorem spec_Apart_ev (w h : Int) (l : List Int) (a b : Int) (hl : l.length ≤ 17592186044416) : Ev (fun k => spec_Apart.f k w h l a b) (apart w h l a b) := by
  have jt : Ev (fun k => spec_Apart.j0 k a b true w h l) (-1) := by
    refine Ev.step (f := fun _ => some (-1)) (fun k => ?_) (Ev.now _)
    simp only [spec_Apart.j0, if_true]
  unfold spec_Apart.f
  refine Ev.bind (spec_IsCell_ev w h l a hl) ?_
  try dsimp only
  cases ea : isCell w h l a with
  | false =>
    rw [show apart w h l a b = -1 from by simp [apart, ea]]
    simp only [Bool.false_eq_true, if_false]
    exact jt
  | true =>
    simp only [if_true]
    refine Ev.bind (spec_IsCell_ev w h l b hl) ?_
    try dsimp only
    cases eb : isCell w h l b with
    | false =>
      rw [show apart w h l a b = -1 from by simp [apart, eb]]
      exact jt
    | true =>
      obtain ⟨w1, w2, a1, a2, a3, a4, a5, a6⟩ := cell_bounds ea
      obtain ⟨_, _, b1, b2, b3, b4, b5, b6⟩ := cell_bounds eb
      rw [show apart w h l a b = absI (a % w - b % w) + absI (a / w - b / w) from by simp [apart, ea, eb]]
      refine Ev.step (f := fun _ => some (absI (a % w - b % w) + absI (a / w - b / w))) (fun k => ?_) (Ev.now _)
      have e1 := Int.tmod_eq_emod_of_nonneg a1 (b := w)
      have e2 := Int.tmod_eq_emod_of_nonneg b1 (b := w)
      have e3 := Int.tdiv_eq_ediv_of_nonneg a1 (b := w)
      have e4 := Int.tdiv_eq_ediv_of_nonneg b1 (b := w)
      simp only [spec_Apart.j0, Bool.not_true, Bool.false_eq_true, if_false, e1, e2, e3, e4]
      rw [if_neg (by omega)]
      generalize a % w = p at *
      generalize b % w = q at *
      generalize a / w = r at *
      generalize b / w = s at *
      have f : ∀ x y : Int, spec_Max.f (x - y) (y - x) = some (absI (x - y)) := by
        intro x y
        unfold spec_Max.f absI
        split <;> split <;> first | rfl | (congr 1; omega)
      rw [wrapS (x := p - q) (by omega) (by omega), wrapS (x := q - p) (by omega) (by omega), wrapS (x := r) (by omega) (by omega), wrapS (x := s) (by omega) (by omega), wrapS (x := r - s) (by omega) (by omega), wrapS (x := s - r) (by omega) (by omega), f, f]
      have g1 : 0 ≤ absI (p - q) ∧ absI (p - q) ≤ 100 := by unfold absI; split <;> omega
      have g2 : 0 ≤ absI (r - s) ∧ absI (r - s) ≤ 100 := by unfold absI; split <;> omega
      simp only [Option.bind_some]
      rw [wrapS (by omega) (by omega)]

theorem laws_toIntS_ev (l : List Int) (hl : l.length ≤ 17592186044416) : Ev (fun k => laws_toIntS.f k l) l := by
  have key : ∀ (d : Nat) (o : List Int) (i : Int), 0 ≤ i → o.length = l.length → i + d = l.length → o.take i.toNat = l.take i.toNat → Ev (fun k => laws_toIntS.l0 k l o i) l := by
    intro d
    induction d with
    | zero =>
      intro o i h0 ho hi ht
      refine Ev.step (f := fun _ => some l) (fun k => ?_) (Ev.now _)
      simp only [laws_toIntS.l0]
      rw [if_neg (by omega), take_all i.toNat ho (by omega) ht]
    | succ d ih =>
      intro o i h0 ho hi ht
      refine Ev.step (f := fun k => laws_toIntS.l0 k l (o.set i.toNat (rd l i)) (i + 1)) (fun k => ?_) (ih _ _ (by omega) (by simpa using ho) (by omega) ?_)
      · simp only [laws_toIntS.l0]
        rw [if_pos (by omega), if_pos h0, if_pos (by omega), wrapS (by omega) (by omega)]
      · rw [show (i + 1).toNat = i.toNat + 1 from by omega]
        exact set_take_succ _ o l i.toNat ho (by omega) ht
  refine Ev.congr (f := fun k => laws_toIntS.l0 k l (List.replicate l.length 0) 0) (fun k => ?_) (key l.length _ 0 (by omega) (by simp) (by omega) (by simp))
  unfold laws_toIntS.f
  rw [if_pos (by omega), if_pos (by omega)]
  rfl

theorem laws_eqIntS_ev (l : List Int) (hl : l.length ≤ 281474976710656) : Ev (fun k => laws_eqIntS.f k l l) true := by
  have key : ∀ (d : Nat) (i : Int), 0 ≤ i → i + d = l.length → Ev (fun k => laws_eqIntS.l0 k l l i) true := by
    intro d
    induction d with
    | zero =>
      intro i h0 hi
      refine Ev.step (f := fun _ => some true) (fun k => ?_) (Ev.now _)
      simp only [laws_eqIntS.l0]
      rw [if_neg (by omega)]
    | succ d ih =>
      intro i h0 hi
      refine Ev.step (f := fun k => laws_eqIntS.l0 k l l (i + 1)) (fun k => ?_) (ih _ (by omega) (by omega))
      simp only [laws_eqIntS.l0]
      rw [if_pos (by omega), if_pos h0, if_pos (by omega), wrapS (by omega) (by omega)]
      simp
  refine Ev.congr (f := fun k => laws_eqIntS.l0 k l l 0) (fun k => ?_) (key l.length 0 (by omega) (by omega))
  unfold laws_eqIntS.f
  rw [if_pos rfl]



theorem laws_szLand_is (w h : Int) (l : List Int) (hl : l.length ≤ 9223372036854775807) : laws_szLand.f w h l 1048576 = some (if (l.length : Int) ≤ 1048576 then 1048576 - (l.length : Int) else -1) := by
  unfold laws_szLand.f laws_szIntS.f
  rw [wrapS (by omega) (by omega)]
  by_cases c : (l.length : Int) ≤ 1048576
  · rw [if_neg (by omega), if_pos c]
    simp only [Option.bind_some]
    rw [if_neg (by omega)]
  · rw [if_pos (by omega), if_neg c]
    simp
theorem laws_toLand_ev (w h : Int) (l : List Int) (hl : l.length ≤ 1048576) : Ev (fun k => laws_toLand.f k w h l) (w, h, l) := by
  unfold laws_toLand.f
  exact Ev.bind (laws_toIntS_ev l (by omega)) (Ev.now _)
theorem laws_eqLand_ev (w h : Int) (l : List Int) (hl : l.length ≤ 1048576) : Ev (fun k => laws_eqLand.f k w h l w h l) true := by
  unfold laws_eqLand.f
  simp only [if_true, bne_self_eq_false, Bool.false_eq_true, if_false, eq_self]
  refine Ev.bind (laws_eqIntS_ev l (by omega)) ?_
  simp only [if_true]
  exact Ev.now _

/-- The lists' comparison from a place on. -/
def eqFrom (a b : List Int) (n : Nat) : Bool := (List.range a.length).all fun j => decide (j < n) || (a.getD j 0 == b.getD j 0)
theorem eqFrom_iff (a b : List Int) (n : Nat) : eqFrom a b n = true ↔ ∀ j, n ≤ j → j < a.length → a.getD j 0 = b.getD j 0 := by
  simp only [eqFrom, List.all_eq_true, List.mem_range, Bool.or_eq_true, decide_eq_true_eq, beq_iff_eq]
  constructor
  · intro h j h1 h2
    rcases h j h2 with h3 | h3
    · omega
    · exact h3
  · intro h j h2
    by_cases h1 : j < n
    · exact Or.inl h1
    · exact Or.inr (h j (by omega) h2)
theorem eqFrom_end (a b : List Int) (n : Nat) (h : a.length ≤ n) : eqFrom a b n = true := by
  rw [eqFrom_iff]
  intro j h1 h2
  omega
theorem eqFrom_yes (a b : List Int) (n : Nat) (h : a.getD n 0 = b.getD n 0) : eqFrom a b n = eqFrom a b (n + 1) := by
  rw [Bool.eq_iff_iff, eqFrom_iff, eqFrom_iff]
  constructor
  · intro hj j h1 h2; exact hj j (by omega) h2
  · intro hj j h1 h2
    by_cases e : j = n
    · subst e; exact h
    · exact hj j (by omega) h2
theorem eqFrom_no (a b : List Int) (n : Nat) (hn : n < a.length) (h : ¬ a.getD n 0 = b.getD n 0) : eqFrom a b n = false := by
  rw [Bool.eq_false_iff, ne_eq, eqFrom_iff]
  intro hj
  exact h (hj n (Nat.le_refl _) hn)

theorem isOpen_land {w h : Int} {l : List Int} {n : Int} (e : isOpen w h l n = true) : isLand w h l = true := by
  simp only [isOpen, Bool.and_eq_true] at e
  exact isCell_land e.1
theorem rd_in (l : List Int) (i : Int) (h0 : 0 ≤ i) (h1 : i < l.length) : rd l i ∈ l := by
  simp only [rd, List.getD_eq_getElem?_getD, List.getElem?_eq_getElem (show i.toNat < l.length by omega), Option.getD_some]
  exact List.getElem_mem _
/-- How many places hold no distance yet. -/
def neg (d : List Int) : Nat := d.countP fun x => decide (x < 0)
theorem neg_le (d : List Int) : neg d ≤ d.length := List.countP_le_length
theorem rd_set_self (d : List Int) (i v : Int) (h0 : 0 ≤ i) (h1 : i < d.length) : rd (d.set i.toNat v) i = v := by
  show (d.set i.toNat v).getD i.toNat 0 = v
  rw [List.getD_eq_getElem?_getD, List.getElem?_set_self (by omega)]
  rfl
theorem rd_set_ne (d : List Int) (i j v : Int) (h0 : 0 ≤ i) (hj : 0 ≤ j) (h : i ≠ j) : rd (d.set i.toNat v) j = rd d j := by
  show (d.set i.toNat v).getD j.toNat 0 = d.getD j.toNat 0
  rw [List.getD_eq_getElem?_getD, List.getD_eq_getElem?_getD, List.getElem?_set_ne (by omega)]
theorem neg_set (d : List Int) (i v : Int) (h0 : 0 ≤ i) (h1 : i < d.length) (hn : rd d i < 0) (hv : 0 ≤ v) : neg (d.set i.toNat v) + 1 = neg d := by
  have hi : i.toNat < d.length := by omega
  have hg : d[i.toNat] = rd d i := by
    show d[i.toNat] = d.getD i.toNat 0
    rw [List.getD_eq_getElem?_getD, List.getElem?_eq_getElem hi]
    rfl
  have hp : 0 < d.countP fun x => decide (x < 0) := List.countP_pos_iff.2 ⟨d[i.toNat], List.getElem_mem hi, by rw [hg]; exact decide_eq_true hn⟩
  unfold neg
  rw [List.countP_set hi, hg]
  simp only [decide_eq_true hn, if_true, decide_eq_false (show ¬ v < 0 by omega), Bool.false_eq_true, if_false]
  omega
/-- What the walk round one cell does: the distances, and what it queues. -/
def vis (c : Int) : List Int → List Int → List Int × List Int
  | [], d => (d, [])
  | x :: ys, d => if rd d x < 0 then ((vis c ys (d.set x.toNat (rd d c + 1))).1, x :: (vis c ys (d.set x.toNat (rd d c + 1))).2) else vis c ys d
def bfs (w : Int) (l : List Int) : Nat → List Int → List Int → List Int
  | 0, d, _ => d
  | _ + 1, d, [] => d
  | f + 1, d, c :: q => bfs w l f (vis c (near w l c) d).1 (q ++ (vis c (near w l c) d).2)
/-- The distances as they stand: one for each cell, none too great. -/
def BInv (l d : List Int) : Prop := d.length = l.length ∧ ∀ j, 0 ≤ j → rd d j + (neg d : Int) ≤ l.length
def QInv (l d q : List Int) : Prop := ∀ x ∈ q, 0 ≤ x ∧ x < l.length ∧ 0 ≤ rd d x
theorem binv_set {l d : List Int} (hd : BInv l d) {c x : Int} (hc : 0 ≤ c ∧ c < l.length ∧ 0 ≤ rd d c) (hx0 : 0 ≤ x) (hx1 : x < l.length) (hn : rd d x < 0) : BInv l (d.set x.toNat (rd d c + 1)) ∧ neg (d.set x.toNat (rd d c + 1)) + 1 = neg d ∧ rd (d.set x.toNat (rd d c + 1)) x = rd d c + 1 ∧ ∀ j, 0 ≤ j → 0 ≤ rd d j → rd (d.set x.toNat (rd d c + 1)) j = rd d j := by
  obtain ⟨hlen, hb⟩ := hd
  have hs := neg_set d x (rd d c + 1) hx0 (by omega) hn (by omega)
  have hself := rd_set_self d x (rd d c + 1) hx0 (by omega)
  refine ⟨⟨by simpa using hlen, ?_⟩, hs, hself, ?_⟩
  · intro j hj
    by_cases e : x = j
    · subst e
      rw [hself]
      have := hb c hc.1
      omega
    · rw [rd_set_ne d x j _ hx0 hj e]
      have := hb j hj
      omega
  · intro j hj h0
    have e : x ≠ j := by
      intro e
      subst e
      omega
    exact rd_set_ne d x j _ hx0 hj e
theorem vis_inv {l : List Int} {c : Int} : ∀ (ys d : List Int), BInv l d → (0 ≤ c ∧ c < l.length ∧ 0 ≤ rd d c) → (∀ x ∈ ys, 0 ≤ x ∧ x < l.length) → BInv l (vis c ys d).1 ∧ neg (vis c ys d).1 + (vis c ys d).2.length = neg d ∧ (∀ j, 0 ≤ j → 0 ≤ rd d j → rd (vis c ys d).1 j = rd d j) ∧ (∀ x ∈ (vis c ys d).2, (0 ≤ x ∧ x < l.length ∧ rd (vis c ys d).1 x = rd d c + 1) ∧ x ∈ ys) := by
  intro ys
  induction ys with
  | nil =>
    intro d hd hc _
    refine ⟨hd, by simp [vis], fun _ _ _ => rfl, ?_⟩
    intro x hx
    simp [vis] at hx
  | cons x ys ih =>
    intro d hd hc hys
    have hx := hys x List.mem_cons_self
    have hys' : ∀ x ∈ ys, 0 ≤ x ∧ x < l.length := fun y hy => hys y (List.mem_cons_of_mem _ hy)
    by_cases hn : rd d x < 0
    · obtain ⟨b1, b2, b3, b4⟩ := binv_set hd hc hx.1 hx.2 hn
      have hc' := b4 c hc.1 hc.2.2
      obtain ⟨i1, i2, i3, i4⟩ := ih _ b1 ⟨hc.1, hc.2.1, by rw [hc']; exact hc.2.2⟩ hys'
      simp only [vis, if_pos hn]
      refine ⟨i1, by rw [List.length_cons]; omega, ?_, ?_⟩
      · intro j hj h0
        rw [i3 j hj (by rw [b4 j hj h0]; exact h0), b4 j hj h0]
      · intro y hy
        rcases List.mem_cons.1 hy with rfl | hy
        · refine ⟨⟨hx.1, hx.2, ?_⟩, List.mem_cons_self⟩
          rw [i3 y hx.1 (by rw [b3]; omega), b3]
        · obtain ⟨⟨a, b, e⟩, g⟩ := i4 y hy
          rw [hc'] at e
          exact ⟨⟨a, b, e⟩, List.mem_cons_of_mem _ g⟩
    · simp only [vis, if_neg hn]
      obtain ⟨i1, i2, i3, i4⟩ := ih d hd hc hys'
      exact ⟨i1, i2, i3, fun y hy => ⟨(i4 y hy).1, List.mem_cons_of_mem _ (i4 y hy).2⟩⟩
theorem near_in {w h : Int} {l : List Int} (hl : isLand w h l = true) {n : Int} (h0 : 0 ≤ n) (h1 : n < l.length) : ∀ x ∈ near w l n, 0 ≤ x ∧ x < l.length := by
  intro x hx
  have := (isOpen_iff hl x).1 ((mem_near hl h0 h1 x).1 hx).1
  exact ⟨this.1, this.2.1⟩
theorem qinv_next {w h : Int} {l d q : List Int} {c : Int} (hl : isLand w h l = true) (hd : BInv l d) (hq : QInv l d (c :: q)) : BInv l (vis c (near w l c) d).1 ∧ QInv l (vis c (near w l c) d).1 (q ++ (vis c (near w l c) d).2) ∧ neg (vis c (near w l c) d).1 + (vis c (near w l c) d).2.length = neg d := by
  have hc := hq c List.mem_cons_self
  obtain ⟨i1, i2, i3, i4⟩ := vis_inv (near w l c) d hd hc (near_in hl hc.1 hc.2.1)
  refine ⟨i1, ?_, i2⟩
  intro x hx
  rcases List.mem_append.1 hx with hx | hx
  · have hh := hq x (List.mem_cons_of_mem _ hx)
    exact ⟨hh.1, hh.2.1, by rw [i3 x hh.1 hh.2.2]; exact hh.2.2⟩
  · obtain ⟨⟨a, b, e⟩, _⟩ := i4 x hx
    exact ⟨a, b, by rw [e]; omega⟩
def dist0 (l : List Int) (a : Int) : List Int := (List.replicate l.length (-1)).set a.toNat 0
def dist (w : Int) (l : List Int) (a : Int) : List Int := bfs w l (l.length + 1) (dist0 l a) [a]
theorem rd_rep (n : Nat) (j : Int) : rd (List.replicate n (-1)) j ≤ 0 := by
  show (List.replicate n (-1 : Int)).getD j.toNat 0 ≤ 0
  rw [List.getD_eq_getElem?_getD, List.getElem?_replicate]
  split <;> simp
theorem dist0_inv {l : List Int} {a : Int} (h0 : 0 ≤ a) (h1 : a < l.length) : BInv l (dist0 l a) ∧ QInv l (dist0 l a) [a] ∧ neg (dist0 l a) + 1 = l.length := by
  have hn : rd (List.replicate l.length (-1)) a < 0 := by
    show (List.replicate l.length (-1 : Int)).getD a.toNat 0 < 0
    rw [List.getD_eq_getElem?_getD, List.getElem?_replicate, if_pos (by omega)]
    simp
  have e : neg (List.replicate l.length (-1)) = l.length := by
    unfold neg
    rw [List.countP_replicate]
    simp
  have hs := neg_set (List.replicate l.length (-1)) a 0 h0 (by simpa using h1) hn (by omega)
  rw [e] at hs
  have hself := rd_set_self (List.replicate l.length (-1)) a 0 h0 (by simpa using h1)
  refine ⟨⟨by simp [dist0], ?_⟩, ?_, hs⟩
  · intro j hj
    unfold dist0
    by_cases e : a = j
    · subst e
      rw [hself]
      omega
    · rw [rd_set_ne _ a j _ h0 hj e]
      have := rd_rep l.length j
      omega
  · intro x hx
    rw [List.mem_singleton] at hx
    subst hx
    exact ⟨h0, h1, by unfold dist0; rw [hself]; omega⟩
theorem bfs_inv {w h : Int} {l : List Int} (hl : isLand w h l = true) : ∀ (f : Nat) (d q : List Int), BInv l d → QInv l d q → BInv l (bfs w l f d q) := by
  intro f
  induction f with
  | zero => intro d q hd _; exact hd
  | succ f ih =>
    intro d q hd hq
    cases q with
    | nil => exact hd
    | cons c q =>
      obtain ⟨i1, i2, _⟩ := qinv_next hl hd hq
      exact ih _ _ i1 i2
theorem dist_inv {w h : Int} {l : List Int} (hl : isLand w h l = true) {a : Int} (h0 : 0 ≤ a) (h1 : a < l.length) : BInv l (dist w l a) := by
  obtain ⟨i1, i2, _⟩ := dist0_inv h0 h1
  exact bfs_inv hl _ _ _ i1 i2
theorem dist_length {w h : Int} {l : List Int} (hl : isLand w h l = true) {a : Int} (h0 : 0 ≤ a) (h1 : a < l.length) : (dist w l a).length = l.length := (dist_inv hl h0 h1).1
theorem rd_mid (Q : List Int) (i : Int) (c : Int) (q : List Int) (h : Q.drop i.toNat = c :: q) : rd Q i = c := by
  show Q.getD i.toNat 0 = c
  have := congrArg (fun t => t[0]?) h
  simp only [List.getElem?_drop, Nat.add_zero, List.getElem?_cons_zero] at this
  rw [List.getD_eq_getElem?_getD, this]
  rfl

def wayAt (w h : Int) (l s : List Int) (i : Int) : Bool := isOpen w h l (rd s i) && (decide (i ≤ 0) || (apart w h l (rd s (i - 1)) (rd s i) == 1))
def wayFrom (w h : Int) (l s : List Int) : Nat → Int → Bool
  | 0, _ => decide ((s.length : Int) > 0)
  | n + 1, i => wayAt w h l s i && wayFrom w h l s n (i + 1)
def place (x : Int) : List Int → Int → Int
  | [], _ => -1
  | v :: t, i => if v = x then i else place x t (i + 1)
theorem place_iff (x : Int) (l : List Int) : ∀ i, 0 ≤ i → (place x l i ≥ 0 ↔ x ∈ l) := by
  induction l with
  | nil => intro i _; simp [place]
  | cons v t ih =>
    intro i hi
    have := ih (i + 1) (by omega)
    unfold place
    by_cases e : v = x
    · rw [if_pos e]
      simp [e, hi]
    · rw [if_neg e, this]
      simp [Ne.symm e]
theorem impl_placeOf_loop (x : Int) (l : List Int) (hl : l.length ≤ 1048576) : ∀ (n : Nat) (i : Int), 0 ≤ i → i + n = l.length → Ev (fun k => impl_placeOf.l0 k x l (l.length : Int) i) (place x (l.drop i.toNat) i) := by
  intro n
  induction n with
  | zero =>
    intro i h0 hi
    rw [List.drop_eq_nil_of_le (by omega)]
    refine Ev.step (f := fun _ => some (-1)) (fun k => ?_) (Ev.now _)
    simp only [impl_placeOf.l0]
    rw [if_neg (by omega)]
  | succ n ih =>
    intro i h0 hi
    have hw : wrap64 (i + 1) = i + 1 := wrapS (by omega) (by omega)
    rw [drop_rd l i h0 (by omega)]
    by_cases c : rd l i = x
    · simp only [place, if_pos c]
      refine Ev.step (f := fun _ => some i) (fun k => ?_) (Ev.now _)
      simp only [impl_placeOf.l0]
      rw [if_pos (by omega), if_pos h0, if_pos (by omega), if_pos c]
    · simp only [place, if_neg c]
      refine Ev.step (f := fun k => impl_placeOf.l0 k x l (l.length : Int) (i + 1)) (fun k => ?_) (ih _ (by omega) (by omega))
      simp only [impl_placeOf.l0, hw]
      rw [if_pos (by omega), if_pos h0, if_pos (by omega), if_neg c]
theorem impl_has_ev (x : Int) (l : List Int) (hl : l.length ≤ 1048576) : Ev (fun k => impl_has.f k l x) (decide (x ∈ l)) := by
  unfold impl_has.f impl_placeOf.f
  refine Ev.bind (impl_placeOf_loop x l hl l.length 0 (by omega) (by omega)) ?_
  have := place_iff x (l.drop (0 : Int).toNat) 0 (by omega)
  rw [show (0 : Int).toNat = 0 from rfl, List.drop_zero] at this ⊢
  rw [decide_eq_decide.2 this]
  exact Ev.now _
def spec_way1 (w h : Int) (l s : List Int) (i : Int) (k : Nat) : Option Bool := (spec_IsOpen.f k w h l (rd s i)).bind fun t => if t = true then (if i > 0 then (if 0 ≤ i - 1 then (if i - 1 < (s.length : Int) then ((spec_Apart.f k w h l (rd s (i - 1)) (rd s i)).bind fun t2 => if t2 = 1 then spec_IsWay.l0 k s (i + 1) w h l else some false) else none) else none) else spec_IsWay.l0 k s (i + 1) w h l) else some false
theorem spec_IsWay_loop (w h : Int) (l s : List Int) (hl : l.length ≤ 1048576) (hs : s.length ≤ 1048576) : ∀ (n : Nat) (i : Int), 0 ≤ i → i + n = s.length → Ev (fun k => spec_IsWay.l0 k s i w h l) (wayFrom w h l s n i) := by
  intro n
  induction n with
  | zero =>
    intro i h0 hi
    refine Ev.step (f := fun _ => some (decide ((s.length : Int) > 0))) (fun k => ?_) (Ev.now _)
    simp only [spec_IsWay.l0]
    rw [if_neg (by omega)]
  | succ n ih =>
    intro i h0 hi
    have hw : wrap64 (i + 1) = i + 1 := wrapS (by omega) (by omega)
    have hw2 : wrap64 (i - 1) = i - 1 := wrapS (by omega) (by omega)
    have hh := ih (i + 1) (by omega) (by omega)
    refine Ev.step (f := fun k => (spec_way1 w h l s i k)) (fun k => ?_) ?_
    · simp only [spec_IsWay.l0, hw, hw2]
      rw [if_pos (by omega), if_pos h0]
      rfl
    · unfold spec_way1
      refine Ev.bind (spec_IsOpen_ev w h l (rd s i) (by omega)) ?_
      unfold wayFrom wayAt
      by_cases c1 : isOpen w h l (rd s i) = true
      · simp only [c1, if_true, Bool.true_and]
        by_cases c2 : i > 0
        · simp only [if_pos c2, if_pos (show 0 ≤ i - 1 from by omega), if_pos (show i - 1 < (s.length : Int) from by omega)]
          refine Ev.bind (spec_Apart_ev w h l (rd s (i - 1)) (rd s i) (by omega)) ?_
          by_cases c3 : apart w h l (rd s (i - 1)) (rd s i) = 1
          · simp only [c3, if_true, beq_self_eq_true, Bool.or_true, Bool.true_and]
            exact hh
          · simp only [if_neg c3, show (apart w h l (rd s (i - 1)) (rd s i) == 1) = false from by simpa using c3, decide_eq_false (show ¬ i ≤ 0 from by omega), Bool.or_false, Bool.false_and]
            exact Ev.now _
        · simp only [if_neg c2]
          simp only [decide_eq_true (show i ≤ 0 from by omega), Bool.true_or, Bool.true_and]
          exact hh
      · rw [Bool.not_eq_true] at c1
        simp only [c1, Bool.false_eq_true, if_false, Bool.false_and]
        exact Ev.now _
def impl_way1 (w h : Int) (l s : List Int) (i : Int) (k : Nat) : Option Bool := (impl_IsOpen.f k w h l (rd s i)).bind fun t => if t = true then (if i > 0 then (if 0 ≤ i - 1 then (if i - 1 < (s.length : Int) then ((impl_Near.f k w h l (rd s (i - 1))).bind fun t2 => (impl_has.f k t2 (rd s i)).bind fun t3 => if t3 = true then impl_IsWay.l0 k s s (s.length : Int) (i + 1) w h l else some false) else none) else none) else impl_IsWay.l0 k s s (s.length : Int) (i + 1) w h l) else some false
theorem impl_IsWay_loop (w h : Int) (l s : List Int) (hl : l.length ≤ 1048576) (hs : s.length ≤ 1048576) (iw : -9223372036854775808 ≤ w ∧ w ≤ 9223372036854775807) : ∀ (n : Nat) (i : Int), 0 ≤ i → i + n = s.length → (i > 0 → isOpen w h l (rd s (i - 1)) = true) → Ev (fun k => impl_IsWay.l0 k s s (s.length : Int) i w h l) (wayFrom w h l s n i) := by
  intro n
  induction n with
  | zero =>
    intro i h0 hi _
    refine Ev.step (f := fun _ => some (decide ((s.length : Int) > 0))) (fun k => ?_) (Ev.now _)
    simp only [impl_IsWay.l0]
    rw [if_neg (by omega)]
  | succ n ih =>
    intro i h0 hi hpre
    have hw : wrap64 (i + 1) = i + 1 := wrapS (by omega) (by omega)
    have hw2 : wrap64 (i - 1) = i - 1 := wrapS (by omega) (by omega)
    have hh := fun hx => ih (i + 1) (by omega) (by omega) hx
    rw [show i + 1 - 1 = i from by omega] at hh
    refine Ev.step (f := fun k => (impl_way1 w h l s i k)) (fun k => ?_) ?_
    · simp only [impl_IsWay.l0, hw, hw2]
      rw [if_pos (by omega), if_pos h0, if_pos (by omega)]
      rfl
    · unfold impl_way1
      refine Ev.bind (impl_IsOpen_ev w h l (rd s i) (by omega)) ?_
      unfold wayFrom wayAt
      by_cases c1 : isOpen w h l (rd s i) = true
      · simp only [c1, if_true, Bool.true_and]
        by_cases c2 : i > 0
        · simp only [if_pos c2, if_pos (show 0 ≤ i - 1 from by omega), if_pos (show i - 1 < (s.length : Int) from by omega)]
          have hp := hpre c2
          have hld := isOpen_land hp
          obtain ⟨p0, p1, _⟩ := (isOpen_iff hld _).1 hp
          obtain ⟨q0, q1, _⟩ := (isOpen_iff hld _).1 c1
          have hn := impl_Near_ev w h l (rd s (i - 1)) (by omega) iw
          rw [if_pos (isCell_mk hld p0 p1)] at hn
          have h4 := near_length w l (rd s (i - 1))
          refine Ev.bind hn (Ev.bind (impl_has_ev (rd s i) (near w l (rd s (i - 1))) (by omega)) ?_)
          have hm : decide (rd s i ∈ near w l (rd s (i - 1))) = (apart w h l (rd s (i - 1)) (rd s i) == 1) := by
            rw [Bool.eq_iff_iff, decide_eq_true_eq, beq_iff_eq, mem_near hld p0 p1, apart_step (isCell_mk hld p0 p1) (isCell_mk hld q0 q1)]
            exact ⟨fun hx => hx.2, fun hx => ⟨c1, hx⟩⟩
          rw [hm]
          by_cases c3 : apart w h l (rd s (i - 1)) (rd s i) = 1
          · simp only [c3, if_true, beq_self_eq_true, Bool.or_true, Bool.true_and]
            exact hh (fun _ => c1)
          · simp only [show (apart w h l (rd s (i - 1)) (rd s i) == 1) = false from by simpa using c3, decide_eq_false (show ¬ i ≤ 0 from by omega), Bool.or_false, Bool.false_and, Bool.false_eq_true, if_false]
            exact Ev.now _
        · simp only [if_neg c2]
          simp only [decide_eq_true (show i ≤ 0 from by omega), Bool.true_or, Bool.true_and]
          exact hh (fun _ => c1)
      · rw [Bool.not_eq_true] at c1
        simp only [c1, Bool.false_eq_true, if_false, Bool.false_and]
        exact Ev.now _
theorem FnExactIsWay (w h : Int) (l : List Int) (s : List Int) (ww : (Lit.int .i64 w).wf = true) (wh : (Lit.int .i64 h).wf = true) (_ : ∀ x ∈ l, (Lit.int .i64 x).wf = true) (hl : l.length ≤ 9223372036854775807) (_ : ∀ x ∈ s, (Lit.int .i64 x).wf = true) : ∃ k, laws_FnExactIsWay.f k w h l s = some true := by
  apply Ev.rounds
  have iw := i64wf ww
  unfold laws_FnExactIsWay.f
  rw [laws_szLand_is w h l hl]
  simp only [Option.bind_some]
  by_cases h0 : (s.length : Int) > 1048576
  · simp only [if_pos h0]
    exact Ev.now _
  by_cases h1 : (l.length : Int) ≤ 1048576
  · simp only [if_neg h0, if_pos h1, if_neg (show ¬ 1048576 - (l.length : Int) < 0 from by omega)]
    have es := spec_IsWay_loop w h l s (by omega) (by omega) s.length 0 (by omega) (by omega)
    have ei := impl_IsWay_loop w h l s (by omega) (by omega) iw s.length 0 (by omega) (by omega) (fun hx => by omega)
    unfold spec_IsWay.f impl_IsWay.f
    refine Ev.bind (laws_toLand_ev w h l (by omega)) ?_
    refine Ev.bind (laws_toIntS_ev s (by omega)) ?_
    refine Ev.bind (es) ?_
    refine Ev.bind (laws_toLand_ev w h l (by omega)) ?_
    refine Ev.bind (laws_toIntS_ev s (by omega)) ?_
    refine Ev.bind (ei) ?_
    simp only [bne_self_eq_false, Bool.false_eq_true, if_false]
    refine Ev.bind (laws_toLand_ev w h l (by omega)) ?_
    refine Ev.bind (laws_eqLand_ev w h l (by omega)) ?_
    simp only [if_true, if_false, Bool.false_eq_true, Bool.not_true, Bool.not_false, bne_self_eq_false, eq_self, ite_true, ite_false, reduceIte]
    refine Ev.bind (laws_toIntS_ev s (by omega)) ?_
    refine Ev.bind (laws_eqIntS_ev s (by omega)) ?_
    simp only [if_true, if_false, Bool.false_eq_true, Bool.not_true, Bool.not_false, bne_self_eq_false, eq_self, ite_true, ite_false, reduceIte]
    exact Ev.now _
  · simp only [if_neg h0, if_neg h1]
    exact Ev.now _

end Go.Proofs.Ytoafabcopihniaa.Pure
