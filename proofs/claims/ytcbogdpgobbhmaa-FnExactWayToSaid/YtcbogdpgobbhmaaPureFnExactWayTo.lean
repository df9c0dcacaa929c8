/- FnExactWayTo answers true, for each land and all numbers that an int holds. -/
import Derived.Test.YtcbogdpgobbhmaaQFnExactWayTox9
set_option linter.unusedVariables false
set_option linter.unusedSimpArgs false
namespace Go.Proofs.Ytcbogdpgobbhmaa.Pure
open Go.RowKit Go.Proofs.Ytcbogdpgobbhmaa.QFnExactWayTo Go.Proofs.YtcbogdpgobbhmaaW.PrintWords Go.Proofs.YtcbogdpgobbhmaaW.PrintLast Go.Proofs.YtcbogdpgobbhmaaW.PrintMore

theorem wrapS {x : Int} (h1 : -9223372036854775808 ≤ x) (h2 : x ≤ 9223372036854775807) : wrap64 x = x := by
  unfold wrap64
  omega
theorem i64wf {x : Int} (h : (Lit.int .i64 x).wf = true) : -9223372036854775808 ≤ x ∧ x ≤ 9223372036854775807 := by
  have h1 : (decide (IntKind.i64.min ≤ x) && decide (x ≤ IntKind.i64.max)) = true := h
  rw [Bool.and_eq_true, decide_eq_true_eq, decide_eq_true_eq] at h1
  exact h1
theorem u8wf {x : Int} (h : (Lit.int .u8 x).wf = true) : 0 ≤ x ∧ x ≤ 255 := by
  have h1 : (decide (IntKind.u8.min ≤ x) && decide (x ≤ IntKind.u8.max)) = true := h
  rw [Bool.and_eq_true, decide_eq_true_eq, decide_eq_true_eq] at h1
  exact h1
/-- What is told of some number of rounds is told of any three together. -/
theorem evNow {α : Type} {g : Option α} {r : α} (h : g = some r) : Ev (fun _ => g) r := ⟨0, fun _ _ => h⟩
theorem one_add_neg (n : Nat) : ((1 : Int) + (n : Int) < 0) = False := by
  simp only [eq_iff_iff, iff_false]
  omega

theorem set_take_succ {α : Type} (d : α) (o l : List α) (n : Nat) (ho : o.length = l.length) (hn : n < l.length) (ht : o.take n = l.take n) : (o.set n (l.getD n d)).take (n + 1) = l.take (n + 1) := by
  apply List.ext_getElem?
  intro j
  have hj := congrArg (fun t => t[j]?) ht
  simp only [List.getElem?_take] at hj ⊢
  by_cases h1 : j < n
  · rw [if_pos h1, if_pos h1] at hj
    rw [if_pos (by omega), if_pos (by omega), List.getElem?_set_ne (by omega)]
    exact hj
  · by_cases h2 : j = n
    · subst h2
      rw [if_pos (by omega), if_pos (by omega), List.getElem?_set_self (by omega), List.getElem?_eq_getElem hn, List.getD_eq_getElem?_getD, List.getElem?_eq_getElem hn]
      rfl
    · rw [if_neg (by omega), if_neg (by omega)]
theorem take_all {α : Type} {o l : List α} (n : Nat) (ho : o.length = l.length) (hn : l.length ≤ n) (ht : o.take n = l.take n) : o = l := by
  rw [List.take_of_length_le (by omega), List.take_of_length_le (by omega)] at ht
  exact ht

def hgo (d : Int) (l : List Int) : Int := l.foldl (fun d v => (d * 1000003 + v % 2147483647 + 13) % 2147483647) d
def hashOf (l : List Int) : Int := hgo 11 l
def khash (a : Int) (l : List Int) : Int := hashOf ([a] ++ l ++ [a])
theorem hgo_range (l : List Int) : ∀ d, 0 ≤ d → d < 2147483647 → 0 ≤ hgo d l ∧ hgo d l < 2147483647 := by
  induction l with
  | nil => intro d h1 h2; exact ⟨h1, h2⟩
  | cons v l ih => intro d h1 h2; exact ih ((d * 1000003 + v % 2147483647 + 13) % 2147483647) (by omega) (by omega)
theorem khash_range (a : Int) (l : List Int) : 0 ≤ khash a l ∧ khash a l < 2147483647 := hgo_range _ 11 (by omega) (by omega)
theorem drop_rd (l : List Int) (i : Int) (h0 : 0 ≤ i) (h1 : i < l.length) : l.drop i.toNat = rd l i :: l.drop (i + 1).toNat := by
  rw [show (i + 1).toNat = i.toNat + 1 from by omega, List.drop_eq_getElem_cons (by omega)]
  congr 1
  simp [rd, List.getD_eq_getElem?_getD, List.getElem?_eq_getElem (show i.toNat < l.length by omega)]
theorem hash_round (d v : Int) (h1 : 0 ≤ d) (h2 : d < 2147483647) : Int.tmod (wrap64 ((wrap64 ((wrap64 (d * 1000003)) + v % 2147483647)) + 13)) 2147483647 = (d * 1000003 + v % 2147483647 + 13) % 2147483647 := by
  rw [wrapS (x := d * 1000003) (by omega) (by omega), wrapS (x := d * 1000003 + v % 2147483647) (by omega) (by omega), wrapS (by omega) (by omega), Int.tmod_eq_emod_of_nonneg (by omega)]

theorem impl_InRange_is (a b c : Int) : impl_InRange.f a b c = some (decide (b ≤ a ∧ a ≤ c)) := by
  unfold impl_InRange.f
  by_cases h : b ≤ a <;> simp [h]

theorem spec_l1In_is (a b c : Int) : spec_l1In.f a b c = some (decide (b ≤ a ∧ a ≤ c)) := by
  unfold spec_l1In.f
  by_cases h : b ≤ a <;> simp [h]

def okCells (l : List Int) : Bool := l.all fun x => decide (0 ≤ x ∧ x ≤ 2)
def isLand (w h : Int) (l : List Int) : Bool := decide ((1 ≤ w ∧ w ≤ 8) ∧ (1 ≤ h ∧ h ≤ 8) ∧ (l.length : Int) = w * h) && okCells l
theorem isLand_true {w h : Int} {l : List Int} (e : isLand w h l = true) : (1 ≤ w ∧ w ≤ 8) ∧ (1 ≤ h ∧ h ≤ 8) ∧ (l.length : Int) = w * h ∧ l.length ≤ 64 ∧ okCells l = true := by
  simp only [isLand, Bool.and_eq_true, decide_eq_true_eq] at e
  obtain ⟨⟨h1, h2, h3⟩, h4⟩ := e
  refine ⟨h1, h2, h3, ?_, h4⟩
  have : w * h ≤ 8 * 8 := Int.mul_le_mul h1.2 h2.2 (by omega) (by omega)
  omega
theorem wrap_wh {w h : Int} (h1 : 1 ≤ w ∧ w ≤ 8) (h2 : 1 ≤ h ∧ h ≤ 8) : wrap64 (w * h) = w * h := by
  have u : w * h ≤ 8 * 8 := Int.mul_le_mul h1.2 h2.2 (by omega) (by omega)
  have v : 0 ≤ w * h := Int.mul_nonneg (by omega) (by omega)
  exact wrapS (by omega) (by omega)

def isCell (w h : Int) (l : List Int) (n : Int) : Bool := isLand w h l && decide (0 ≤ n ∧ n ≤ (l.length : Int) - 1)
theorem isCell_true {w h : Int} {l : List Int} {n : Int} (e : isCell w h l n = true) : 0 ≤ n ∧ n < l.length := by
  simp only [isCell, Bool.and_eq_true, decide_eq_true_eq] at e
  omega
theorem isCell_land {w h : Int} {l : List Int} {n : Int} (e : isCell w h l n = true) : isLand w h l = true := by
  simp only [isCell, Bool.and_eq_true] at e
  exact e.1

def isOpen (w h : Int) (l : List Int) (n : Int) : Bool := isCell w h l n && (rd l n != 2)

def absI (x : Int) : Int := if x < 0 then -x else x
def apart (w h : Int) (l : List Int) (a b : Int) : Int := if isCell w h l a = true ∧ isCell w h l b = true then absI (a % w - b % w) + absI (a / w - b / w) else -1
theorem cell_bounds {w h : Int} {l : List Int} {a : Int} (e : isCell w h l a = true) : 1 ≤ w ∧ w ≤ 8 ∧ 0 ≤ a ∧ a < 64 ∧ 0 ≤ a % w ∧ a % w < 8 ∧ 0 ≤ a / w ∧ a / w < 64 := by
  obtain ⟨h1, _, _, h4, _⟩ := isLand_true (isCell_land e)
  obtain ⟨h5, h6⟩ := isCell_true e
  have m1 := Int.emod_nonneg a (show w ≠ 0 by omega)
  have m2 := Int.emod_lt_of_pos a (show 0 < w by omega)
  have d1 := Int.ediv_nonneg h5 (show 0 ≤ w by omega)
  have d2 : a / w ≤ a := Int.ediv_le_self w h5
  exact ⟨h1.1, h1.2, h5, by omega, m1, by omega, d1, by omega⟩

/-- The open cells beside a cell. -/
def near (w : Int) (l : List Int) (n : Int) : List Int :=
  (if w ≤ n ∧ rd l (n - w) ≠ 2 then [n - w] else []) ++ ((if 0 < n % w ∧ rd l (n - 1) ≠ 2 then [n - 1] else []) ++ ((if n % w < w - 1 ∧ rd l (n + 1) ≠ 2 then [n + 1] else []) ++ (if n + w < l.length ∧ rd l (n + w) ≠ 2 then [n + w] else [])))
theorem near_length (w : Int) (l : List Int) (n : Int) : (near w l n).length ≤ 4 := by
  unfold near
  split <;> split <;> split <;> split <;> simp
theorem w8 {w : Int} (h : 1 ≤ w ∧ w ≤ 8) : w = 1 ∨ w = 2 ∨ w = 3 ∨ w = 4 ∨ w = 5 ∨ w = 6 ∨ w = 7 ∨ w = 8 := by omega
def step (w n m : Int) : Int := absI (n % w - m % w) + absI (n / w - m / w)
theorem step_up (w n : Int) (h : 1 ≤ w ∧ w ≤ 8) : step w n (n - w) = 1 := by
  unfold step absI
  rcases w8 h with rfl | rfl | rfl | rfl | rfl | rfl | rfl | rfl <;> split <;> split <;> omega
theorem step_down (w n : Int) (h : 1 ≤ w ∧ w ≤ 8) : step w n (n + w) = 1 := by
  unfold step absI
  rcases w8 h with rfl | rfl | rfl | rfl | rfl | rfl | rfl | rfl <;> split <;> split <;> omega
theorem step_left (w n : Int) (h : 1 ≤ w ∧ w ≤ 8) : step w n (n - 1) = 1 ↔ (0 < n % w ∨ w = 1) := by
  unfold step absI
  rcases w8 h with rfl | rfl | rfl | rfl | rfl | rfl | rfl | rfl <;> split <;> split <;> omega
theorem step_right (w n : Int) (h : 1 ≤ w ∧ w ≤ 8) : step w n (n + 1) = 1 ↔ (n % w < w - 1 ∨ w = 1) := by
  unfold step absI
  rcases w8 h with rfl | rfl | rfl | rfl | rfl | rfl | rfl | rfl <;> split <;> split <;> omega
theorem step_four (w n m : Int) (h : 1 ≤ w ∧ w ≤ 8) (e : step w n m = 1) : m = n - w ∨ m = n - 1 ∨ m = n + 1 ∨ m = n + w := by
  unfold step absI at e
  rcases w8 h with rfl | rfl | rfl | rfl | rfl | rfl | rfl | rfl <;> split at e <;> split at e <;> omega
theorem step_comm (w n m : Int) : step w n m = step w m n := by
  unfold step absI
  split <;> split <;> split <;> split <;> omega
theorem apart_step {w h : Int} {l : List Int} {a b : Int} (ha : isCell w h l a = true) (hb : isCell w h l b = true) : apart w h l a b = step w a b := by
  unfold apart step
  rw [if_pos ⟨ha, hb⟩]
theorem isCell_mk {w h : Int} {l : List Int} {n : Int} (hl : isLand w h l = true) (h0 : 0 ≤ n) (h1 : n < l.length) : isCell w h l n = true := by
  simp only [isCell, hl, Bool.true_and, decide_eq_true_eq]
  omega
theorem isOpen_iff {w h : Int} {l : List Int} (hl : isLand w h l = true) (n : Int) : isOpen w h l n = true ↔ 0 ≤ n ∧ n < l.length ∧ rd l n ≠ 2 := by
  simp only [isOpen, isCell, hl, Bool.true_and, Bool.and_eq_true, decide_eq_true_eq, bne_iff_ne]
  omega
theorem mod_len {w h : Int} {l : List Int} (hl : isLand w h l = true) (n : Int) (h0 : 0 ≤ n) (h1 : n < l.length) (h2 : n % w < w - 1) : n + 1 < l.length := by
  obtain ⟨hw, hh, hlen, _, _⟩ := isLand_true hl
  have e := Int.emod_add_mul_ediv n w
  have hdiv : n / w < h := by
    refine Int.ediv_lt_of_lt_mul (by omega) ?_
    rw [Int.mul_comm]
    omega
  have h3 : w * (n / w + 1) ≤ w * h := Int.mul_le_mul_of_nonneg_left (by omega) (by omega)
  rw [Int.mul_add, Int.mul_one] at h3
  omega
/-- What is beside a cell: what is open, one step away. -/
theorem mem_near {w h : Int} {l : List Int} (hl : isLand w h l = true) {n : Int} (h0 : 0 ≤ n) (h1 : n < l.length) (m : Int) : m ∈ near w l n ↔ isOpen w h l m = true ∧ step w n m = 1 := by
  obtain ⟨hw, hh, hlen, _, _⟩ := isLand_true hl
  have m1 := Int.emod_nonneg n (show w ≠ 0 by omega)
  have m2 : n % w ≤ n := by
    have := Int.emod_add_mul_ediv n w
    have := Int.mul_nonneg (show 0 ≤ w by omega) (Int.ediv_nonneg h0 (show 0 ≤ w by omega))
    omega
  have hx : m ∈ near w l n ↔ (m = n - w ∧ w ≤ n ∧ rd l (n - w) ≠ 2) ∨ (m = n - 1 ∧ 0 < n % w ∧ rd l (n - 1) ≠ 2) ∨ (m = n + 1 ∧ n % w < w - 1 ∧ rd l (n + 1) ≠ 2) ∨ (m = n + w ∧ n + w < l.length ∧ rd l (n + w) ≠ 2) := by
    unfold near
    simp only [List.mem_append]
    have q : ∀ (c : Prop) [Decidable c] (x : Int), m ∈ (if c then [x] else []) ↔ (m = x ∧ c) := by
      intro c _ x
      by_cases hc : c <;> simp [hc]
    rw [q, q, q, q]
  rw [hx, isOpen_iff hl]
  constructor
  · rintro (⟨rfl, h2, h3⟩ | ⟨rfl, h2, h3⟩ | ⟨rfl, h2, h3⟩ | ⟨rfl, h2, h3⟩)
    · exact ⟨⟨by omega, by omega, h3⟩, step_up w n hw⟩
    · exact ⟨⟨by omega, by omega, h3⟩, (step_left w n hw).2 (Or.inl h2)⟩
    · exact ⟨⟨by omega, mod_len hl n h0 h1 h2, h3⟩, (step_right w n hw).2 (Or.inl h2)⟩
    · exact ⟨⟨by omega, h2, h3⟩, step_down w n hw⟩
  · rintro ⟨⟨h2, h3, h4⟩, h5⟩
    rcases step_four w n m hw h5 with rfl | rfl | rfl | rfl
    · exact Or.inl ⟨rfl, by omega, h4⟩
    · rcases (step_left w n hw).1 h5 with h6 | h6
      · exact Or.inr (Or.inl ⟨rfl, h6, h4⟩)
      · subst h6
        exact Or.inl ⟨rfl, by omega, h4⟩
    · rcases (step_right w n hw).1 h5 with h6 | h6
      · exact Or.inr (Or.inr (Or.inl ⟨rfl, h6, h4⟩))
      · subst h6
        exact Or.inr (Or.inr (Or.inr ⟨rfl, h3, h4⟩))
    · exact Or.inr (Or.inr (Or.inr ⟨rfl, h3, h4⟩))
theorem near_asc (w : Int) (l : List Int) (n : Int) (hw : 1 ≤ w) : (near w l n).Pairwise (· < ·) := by
  unfold near
  by_cases hw1 : w = 1
  · subst hw1
    rw [if_neg (c := 0 < n % 1 ∧ rd l (n - 1) ≠ 2) (by omega), if_neg (c := n % 1 < 1 - 1 ∧ rd l (n + 1) ≠ 2) (by omega)]
    split <;> split <;> simp
    omega
  · split <;> split <;> split <;> split <;> simp <;> omega

theorem isOpen_land {w h : Int} {l : List Int} {n : Int} (e : isOpen w h l n = true) : isLand w h l = true := by
  simp only [isOpen, Bool.and_eq_true] at e
  exact isCell_land e.1
theorem rd_in (l : List Int) (i : Int) (h0 : 0 ≤ i) (h1 : i < l.length) : rd l i ∈ l := by
  simp only [rd, List.getD_eq_getElem?_getD, List.getElem?_eq_getElem (show i.toNat < l.length by omega), Option.getD_some]
  exact List.getElem_mem _
/-- How many places hold no distance yet. -/
def neg (d : List Int) : Nat := d.countP fun x => decide (x < 0)
theorem neg_le (d : List Int) : neg d ≤ d.length := List.countP_le_length
theorem rd_set_self (d : List Int) (i v : Int) (h0 : 0 ≤ i) (h1 : i < d.length) : rd (d.set i.toNat v) i = v := by
  show (d.set i.toNat v).getD i.toNat 0 = v
  rw [List.getD_eq_getElem?_getD, List.getElem?_set_self (by omega)]
  rfl
theorem rd_set_ne (d : List Int) (i j v : Int) (h0 : 0 ≤ i) (hj : 0 ≤ j) (h : i ≠ j) : rd (d.set i.toNat v) j = rd d j := by
  show (d.set i.toNat v).getD j.toNat 0 = d.getD j.toNat 0
  rw [List.getD_eq_getElem?_getD, List.getD_eq_getElem?_getD, List.getElem?_set_ne (by omega)]
theorem neg_set (d : List Int) (i v : Int) (h0 : 0 ≤ i) (h1 : i < d.length) (hn : rd d i < 0) (hv : 0 ≤ v) : neg (d.set i.toNat v) + 1 = neg d := by
  have hi : i.toNat < d.length := by omega
  have hg : d[i.toNat] = rd d i := by
    show d[i.toNat] = d.getD i.toNat 0
    rw [List.getD_eq_getElem?_getD, List.getElem?_eq_getElem hi]
    rfl
  have hp : 0 < d.countP fun x => decide (x < 0) := List.countP_pos_iff.2 ⟨d[i.toNat], List.getElem_mem hi, by rw [hg]; exact decide_eq_true hn⟩
  unfold neg
  rw [List.countP_set hi, hg]
  simp only [decide_eq_true hn, if_true, decide_eq_false (show ¬ v < 0 by omega), Bool.false_eq_true, if_false]
  omega
/-- What the walk round one cell does: the distances, and what it queues. -/
def vis (c : Int) : List Int → List Int → List Int × List Int
  | [], d => (d, [])
  | x :: ys, d => if rd d x < 0 then ((vis c ys (d.set x.toNat (rd d c + 1))).1, x :: (vis c ys (d.set x.toNat (rd d c + 1))).2) else vis c ys d
def bfs (w : Int) (l : List Int) : Nat → List Int → List Int → List Int
  | 0, d, _ => d
  | _ + 1, d, [] => d
  | f + 1, d, c :: q => bfs w l f (vis c (near w l c) d).1 (q ++ (vis c (near w l c) d).2)
/-- The distances as they stand: one for each cell, none too great. -/
def BInv (l d : List Int) : Prop := d.length = l.length ∧ ∀ j, 0 ≤ j → rd d j + (neg d : Int) ≤ l.length
def QInv (l d q : List Int) : Prop := ∀ x ∈ q, 0 ≤ x ∧ x < l.length ∧ 0 ≤ rd d x
theorem binv_set {l d : List Int} (hd : BInv l d) {c x : Int} (hc : 0 ≤ c ∧ c < l.length ∧ 0 ≤ rd d c) (hx0 : 0 ≤ x) (hx1 : x < l.length) (hn : rd d x < 0) : BInv l (d.set x.toNat (rd d c + 1)) ∧ neg (d.set x.toNat (rd d c + 1)) + 1 = neg d ∧ rd (d.set x.toNat (rd d c + 1)) x = rd d c + 1 ∧ ∀ j, 0 ≤ j → 0 ≤ rd d j → rd (d.set x.toNat (rd d c + 1)) j = rd d j := by
  obtain ⟨hlen, hb⟩ := hd
  have hs := neg_set d x (rd d c + 1) hx0 (by omega) hn (by omega)
  have hself := rd_set_self d x (rd d c + 1) hx0 (by omega)
  refine ⟨⟨by simpa using hlen, ?_⟩, hs, hself, ?_⟩
  · intro j hj
    by_cases e : x = j
    · subst e
      rw [hself]
      have := hb c hc.1
      omega
    · rw [rd_set_ne d x j _ hx0 hj e]
      have := hb j hj
      omega
  · intro j hj h0
    have e : x ≠ j := by
      intro e
      subst e
      omega
    exact rd_set_ne d x j _ hx0 hj e
theorem vis_inv {l : List Int} {c : Int} : ∀ (ys d : List Int), BInv l d → (0 ≤ c ∧ c < l.length ∧ 0 ≤ rd d c) → (∀ x ∈ ys, 0 ≤ x ∧ x < l.length) → BInv l (vis c ys d).1 ∧ neg (vis c ys d).1 + (vis c ys d).2.length = neg d ∧ (∀ j, 0 ≤ j → 0 ≤ rd d j → rd (vis c ys d).1 j = rd d j) ∧ (∀ x ∈ (vis c ys d).2, (0 ≤ x ∧ x < l.length ∧ rd (vis c ys d).1 x = rd d c + 1) ∧ x ∈ ys) := by
  intro ys
  induction ys with
  | nil =>
    intro d hd hc _
    refine ⟨hd, by simp [vis], fun _ _ _ => rfl, ?_⟩
    intro x hx
    simp [vis] at hx
  | cons x ys ih =>
    intro d hd hc hys
    have hx := hys x List.mem_cons_self
    have hys' : ∀ x ∈ ys, 0 ≤ x ∧ x < l.length := fun y hy => hys y (List.mem_cons_of_mem _ hy)
    by_cases hn : rd d x < 0
    · obtain ⟨b1, b2, b3, b4⟩ := binv_set hd hc hx.1 hx.2 hn
      have hc' := b4 c hc.1 hc.2.2
      obtain ⟨i1, i2, i3, i4⟩ := ih _ b1 ⟨hc.1, hc.2.1, by rw [hc']; exact hc.2.2⟩ hys'
      simp only [vis, if_pos hn]
      refine ⟨i1, by rw [List.length_cons]; omega, ?_, ?_⟩
      · intro j hj h0
        rw [i3 j hj (by rw [b4 j hj h0]; exact h0), b4 j hj h0]
      · intro y hy
        rcases List.mem_cons.1 hy with rfl | hy
        · refine ⟨⟨hx.1, hx.2, ?_⟩, List.mem_cons_self⟩
          rw [i3 y hx.1 (by rw [b3]; omega), b3]
        · obtain ⟨⟨a, b, e⟩, g⟩ := i4 y hy
          rw [hc'] at e
          exact ⟨⟨a, b, e⟩, List.mem_cons_of_mem _ g⟩
    · simp only [vis, if_neg hn]
      obtain ⟨i1, i2, i3, i4⟩ := ih d hd hc hys'
      exact ⟨i1, i2, i3, fun y hy => ⟨(i4 y hy).1, List.mem_cons_of_mem _ (i4 y hy).2⟩⟩
theorem near_in {w h : Int} {l : List Int} (hl : isLand w h l = true) {n : Int} (h0 : 0 ≤ n) (h1 : n < l.length) : ∀ x ∈ near w l n, 0 ≤ x ∧ x < l.length := by
  intro x hx
  have := (isOpen_iff hl x).1 ((mem_near hl h0 h1 x).1 hx).1
  exact ⟨this.1, this.2.1⟩
theorem qinv_next {w h : Int} {l d q : List Int} {c : Int} (hl : isLand w h l = true) (hd : BInv l d) (hq : QInv l d (c :: q)) : BInv l (vis c (near w l c) d).1 ∧ QInv l (vis c (near w l c) d).1 (q ++ (vis c (near w l c) d).2) ∧ neg (vis c (near w l c) d).1 + (vis c (near w l c) d).2.length = neg d := by
  have hc := hq c List.mem_cons_self
  obtain ⟨i1, i2, i3, i4⟩ := vis_inv (near w l c) d hd hc (near_in hl hc.1 hc.2.1)
  refine ⟨i1, ?_, i2⟩
  intro x hx
  rcases List.mem_append.1 hx with hx | hx
  · have hh := hq x (List.mem_cons_of_mem _ hx)
    exact ⟨hh.1, hh.2.1, by rw [i3 x hh.1 hh.2.2]; exact hh.2.2⟩
  · obtain ⟨⟨a, b, e⟩, _⟩ := i4 x hx
    exact ⟨a, b, by rw [e]; omega⟩
def dist0 (l : List Int) (a : Int) : List Int := (List.replicate l.length (-1)).set a.toNat 0
def dist (w : Int) (l : List Int) (a : Int) : List Int := bfs w l (l.length + 1) (dist0 l a) [a]
theorem rd_rep (n : Nat) (j : Int) : rd (List.replicate n (-1)) j ≤ 0 := by
  show (List.replicate n (-1 : Int)).getD j.toNat 0 ≤ 0
  rw [List.getD_eq_getElem?_getD, List.getElem?_replicate]
  split <;> simp
theorem dist0_inv {l : List Int} {a : Int} (h0 : 0 ≤ a) (h1 : a < l.length) : BInv l (dist0 l a) ∧ QInv l (dist0 l a) [a] ∧ neg (dist0 l a) + 1 = l.length := by
  have hn : rd (List.replicate l.length (-1)) a < 0 := by
    show (List.replicate l.length (-1 : Int)).getD a.toNat 0 < 0
    rw [List.getD_eq_getElem?_getD, List.getElem?_replicate, if_pos (by omega)]
    simp
  have e : neg (List.replicate l.length (-1)) = l.length := by
    unfold neg
    rw [List.countP_replicate]
    simp
  have hs := neg_set (List.replicate l.length (-1)) a 0 h0 (by simpa using h1) hn (by omega)
  rw [e] at hs
  have hself := rd_set_self (List.replicate l.length (-1)) a 0 h0 (by simpa using h1)
  refine ⟨⟨by simp [dist0], ?_⟩, ?_, hs⟩
  · intro j hj
    unfold dist0
    by_cases e : a = j
    · subst e
      rw [hself]
      omega
    · rw [rd_set_ne _ a j _ h0 hj e]
      have := rd_rep l.length j
      omega
  · intro x hx
    rw [List.mem_singleton] at hx
    subst hx
    exact ⟨h0, h1, by unfold dist0; rw [hself]; omega⟩
theorem bfs_inv {w h : Int} {l : List Int} (hl : isLand w h l = true) : ∀ (f : Nat) (d q : List Int), BInv l d → QInv l d q → BInv l (bfs w l f d q) := by
  intro f
  induction f with
  | zero => intro d q hd _; exact hd
  | succ f ih =>
    intro d q hd hq
    cases q with
    | nil => exact hd
    | cons c q =>
      obtain ⟨i1, i2, _⟩ := qinv_next hl hd hq
      exact ih _ _ i1 i2
theorem dist_inv {w h : Int} {l : List Int} (hl : isLand w h l = true) {a : Int} (h0 : 0 ≤ a) (h1 : a < l.length) : BInv l (dist w l a) := by
  obtain ⟨i1, i2, _⟩ := dist0_inv h0 h1
  exact bfs_inv hl _ _ _ i1 i2
theorem dist_length {w h : Int} {l : List Int} (hl : isLand w h l = true) {a : Int} (h0 : 0 ≤ a) (h1 : a < l.length) : (dist w l a).length = l.length := (dist_inv hl h0 h1).1
theorem rd_mid (Q : List Int) (i : Int) (c : Int) (q : List Int) (h : Q.drop i.toNat = c :: q) : rd Q i = c := by
  show Q.getD i.toNat 0 = c
  have := congrArg (fun t => t[0]?) h
  simp only [List.getElem?_drop, Nat.add_zero, List.getElem?_cons_zero] at this
  rw [List.getD_eq_getElem?_getD, this]
  rfl

def Vd (l d : List Int) (j : Int) : Prop := (0 ≤ j ∧ j < l.length) ∧ 0 ≤ rd d j
theorem vis_more {l : List Int} {c : Int} : ∀ (ys d : List Int), BInv l d → (0 ≤ c ∧ c < l.length ∧ 0 ≤ rd d c) → (∀ x ∈ ys, 0 ≤ x ∧ x < l.length) → (∀ x ∈ ys, 0 ≤ rd (vis c ys d).1 x) ∧ ∀ j, 0 ≤ j → 0 ≤ rd (vis c ys d).1 j → 0 ≤ rd d j ∨ j ∈ (vis c ys d).2 := by
  intro ys
  induction ys with
  | nil =>
    intro d _ _ _
    refine ⟨fun x hx => by simp at hx, fun j _ h => Or.inl h⟩
  | cons x ys ih =>
    intro d hd hc hys
    have hx := hys x List.mem_cons_self
    have hys' : ∀ x ∈ ys, 0 ≤ x ∧ x < l.length := fun y hy => hys y (List.mem_cons_of_mem _ hy)
    by_cases hn : rd d x < 0
    · obtain ⟨b1, b2, b3, b4⟩ := binv_set hd hc hx.1 hx.2 hn
      have hc' := b4 c hc.1 hc.2.2
      have hcc : 0 ≤ c ∧ c < l.length ∧ 0 ≤ rd (d.set x.toNat (rd d c + 1)) c := ⟨hc.1, hc.2.1, by rw [hc']; exact hc.2.2⟩
      obtain ⟨i1, i2, i3, i4⟩ := vis_inv ys _ b1 hcc hys'
      obtain ⟨m1, m2⟩ := ih _ b1 hcc hys'
      simp only [vis, if_pos hn]
      refine ⟨?_, ?_⟩
      · intro y hy
        rcases List.mem_cons.1 hy with rfl | hy
        · rw [i3 y hx.1 (by rw [b3]; omega), b3]
          omega
        · exact m1 y hy
      · intro j hj h
        rcases m2 j hj h with h1 | h1
        · by_cases e : x = j
          · subst e
            exact Or.inr List.mem_cons_self
          · rw [rd_set_ne d x j _ hx.1 hj e] at h1
            exact Or.inl h1
        · exact Or.inr (List.mem_cons_of_mem _ h1)
    · simp only [vis, if_neg hn]
      obtain ⟨i1, i2, i3, i4⟩ := vis_inv ys d hd hc hys'
      obtain ⟨m1, m2⟩ := ih d hd hc hys'
      refine ⟨?_, m2⟩
      intro y hy
      rcases List.mem_cons.1 hy with rfl | hy
      · rw [i3 y hx.1 (by omega)]
        omega
      · exact m1 y hy
/-- What holds of the distances as they stand, while cells wait. -/
structure BF (w h : Int) (l : List Int) (b : Int) (d q : List Int) : Prop where
  inv : BInv l d
  qi : QInv l d q
  opn : ∀ v, Vd l d v → isOpen w h l v = true
  src : Vd l d b ∧ rd d b = 0
  par : ∀ v, Vd l d v → v = b ∨ ∃ u, Vd l d u ∧ v ∈ near w l u ∧ rd d v = rd d u + 1
  don : ∀ v, Vd l d v → v ∈ q ∨ ∀ y ∈ near w l v, 0 ≤ rd d y ∧ rd d y ≤ rd d v + 1
  srt : q.Pairwise fun x y => rd d x ≤ rd d y
  top : ∀ c, q.head? = some c → ∀ v, Vd l d v → rd d v ≤ rd d c + 1
theorem bf_next {w h : Int} {l : List Int} (hl : isLand w h l = true) {b : Int} {d q : List Int} {c : Int} (B : BF w h l b d (c :: q)) : BF w h l b (vis c (near w l c) d).1 (q ++ (vis c (near w l c) d).2) := by
  obtain ⟨n1, n2, n3⟩ := qinv_next hl B.inv B.qi
  have hc := B.qi c List.mem_cons_self
  have hin := near_in hl hc.1 hc.2.1
  obtain ⟨_, _, i3, i4⟩ := vis_inv (near w l c) d B.inv hc hin
  obtain ⟨m1, m2⟩ := vis_more (near w l c) d B.inv hc hin
  generalize hd' : (vis c (near w l c) d).1 = d' at *
  generalize hq' : (vis c (near w l c) d).2 = a at *
  have up : ∀ v, Vd l d v → Vd l d' v ∧ rd d' v = rd d v := by
    intro v hv
    have e := i3 v hv.1.1 hv.2
    exact ⟨⟨hv.1, by rw [e]; exact hv.2⟩, e⟩
  have dn : ∀ v, Vd l d' v → Vd l d v ∨ v ∈ a := by
    intro v hv
    rcases m2 v hv.1.1 hv.2 with h1 | h1
    · exact Or.inl ⟨hv.1, h1⟩
    · exact Or.inr h1
  have cv : Vd l d c := ⟨⟨hc.1, hc.2.1⟩, hc.2.2⟩
  have ec := (up c cv).2
  have qv : ∀ x ∈ q, Vd l d x := by
    intro x hx
    have := B.qi x (List.mem_cons_of_mem _ hx)
    exact ⟨⟨this.1, this.2.1⟩, this.2.2⟩
  have tp := B.top c rfl
  have all : ∀ v, Vd l d' v → rd d' v ≤ rd d c + 1 := by
    intro v hv
    rcases dn v hv with h1 | h1
    · rw [(up v h1).2]; exact tp v h1
    · rw [(i4 v h1).1.2.2]; omega
  have low : ∀ x ∈ q ++ a, rd d c ≤ rd d' x := by
    intro x hx
    rcases List.mem_append.1 hx with h1 | h1
    · rw [(up x (qv x h1)).2]
      exact (List.pairwise_cons.1 B.srt).1 x h1
    · rw [(i4 x h1).1.2.2]; omega
  refine ⟨n1, n2, ?_, ?_, ?_, ?_, ?_, ?_⟩
  · intro v hv
    rcases dn v hv with h1 | h1
    · exact B.opn v h1
    · exact ((mem_near hl hc.1 hc.2.1 v).1 (i4 v h1).2).1
  · exact ⟨(up b B.src.1).1, by rw [(up b B.src.1).2]; exact B.src.2⟩
  · intro v hv
    rcases dn v hv with h1 | h1
    · rcases B.par v h1 with h2 | ⟨u, h2, h3, h4⟩
      · exact Or.inl h2
      · exact Or.inr ⟨u, (up u h2).1, h3, by rw [(up u h2).2, (up v h1).2]; exact h4⟩
    · exact Or.inr ⟨c, (up c cv).1, (i4 v h1).2, by rw [ec]; exact (i4 v h1).1.2.2⟩
  · intro v hv
    rcases dn v hv with h1 | h1
    · rcases B.don v h1 with h2 | h2
      · rcases List.mem_cons.1 h2 with rfl | h2
        · refine Or.inr (fun y hy => ?_)
          have h3 := m1 y hy
          refine ⟨h3, ?_⟩
          rw [ec]
          exact all y ⟨hin y hy, h3⟩
        · exact Or.inl (List.mem_append_left _ h2)
      · refine Or.inr (fun y hy => ?_)
        have h3 := h2 y hy
        rw [(up v h1).2, (up y ⟨near_in hl h1.1.1 h1.1.2 y hy, h3.1⟩).2]
        exact h3
    · exact Or.inl (List.mem_append_right _ h1)
  · refine List.pairwise_append.2 ⟨?_, ?_, ?_⟩
    · refine List.Pairwise.imp_of_mem ?_ (List.pairwise_cons.1 B.srt).2
      intro x y hx hy hxy
      rw [(up x (qv x hx)).2, (up y (qv y hy)).2]
      exact hxy
    · refine List.Pairwise.imp_of_mem (R := fun _ _ => True) ?_ (List.pairwise_of_forall (fun _ _ => trivial))
      intro x y hx hy _
      rw [(i4 x hx).1.2.2, (i4 y hy).1.2.2]
      omega
    · intro x hx y hy
      rw [(up x (qv x hx)).2, (i4 y hy).1.2.2]
      exact tp x (qv x hx)
  · intro c' hc' v hv
    have h1 := low c' (List.mem_of_mem_head? hc')
    have h2 := all v hv
    omega
theorem bf_done {w h : Int} {l : List Int} (hl : isLand w h l = true) {b : Int} : ∀ (f : Nat) (d q : List Int), BF w h l b d q → q.length + neg d < f → BF w h l b (bfs w l f d q) [] := by
  intro f
  induction f with
  | zero => intro d q _ h; omega
  | succ f ih =>
    intro d q B hf
    cases q with
    | nil => exact B
    | cons c q =>
      rw [List.length_cons] at hf
      obtain ⟨n1, n2, n3⟩ := qinv_next hl B.inv B.qi
      exact ih _ _ (bf_next hl B) (by rw [List.length_append]; omega)
theorem bf_dist {w h : Int} {l : List Int} {b : Int} (hb : isOpen w h l b = true) : BF w h l b (dist w l b) [] := by
  have hl := isOpen_land hb
  obtain ⟨b0, b1, _⟩ := (isOpen_iff hl b).1 hb
  obtain ⟨i1, i2, i3⟩ := dist0_inv b0 b1
  have only : ∀ v, Vd l (dist0 l b) v → v = b := by
    intro v hv
    by_cases e : b = v
    · exact e.symm
    · have h1 := hv.2
      unfold dist0 at h1
      rw [rd_set_ne _ b v 0 b0 hv.1.1 e] at h1
      have h2 : rd (List.replicate l.length (-1)) v = -1 := by
        show (List.replicate l.length (-1 : Int)).getD v.toNat 0 = -1
        have := hv.1
        rw [List.getD_eq_getElem?_getD, List.getElem?_replicate, if_pos (by omega)]
        rfl
      omega
  have hself : rd (dist0 l b) b = 0 := rd_set_self (List.replicate l.length (-1)) b 0 b0 (by simpa using b1)
  refine bf_done hl _ _ _ ⟨i1, i2, ?_, ?_, ?_, ?_, ?_, ?_⟩ (by simp; omega)
  · intro v hv
    rw [only v hv]
    exact hb
  · exact ⟨⟨⟨b0, b1⟩, by omega⟩, hself⟩
  · intro v hv
    exact Or.inl (only v hv)
  · intro v hv
    exact Or.inl (by rw [only v hv]; exact List.mem_singleton.2 rfl)
  · exact List.pairwise_singleton _ _
  · intro c hc v hv
    have h1 := only v hv
    subst h1
    simp only [List.head?_cons, Option.some.injEq] at hc
    subst hc
    omega
theorem near_sym {w h : Int} {l : List Int} {u v : Int} (hl : isLand w h l = true) (hu : isOpen w h l u = true) (h1 : v ∈ near w l u) : u ∈ near w l v := by
  obtain ⟨u0, u1, _⟩ := (isOpen_iff hl u).1 hu
  obtain ⟨a, b⟩ := (mem_near hl u0 u1 v).1 h1
  obtain ⟨v0, v1, _⟩ := (isOpen_iff hl v).1 a
  exact (mem_near hl v0 v1 u).2 ⟨hu, by rw [step_comm]; exact b⟩
/-- A neighbour of a cell that is reached: reached too, and no more than a day away from it. -/
theorem dist_near {w h : Int} {l : List Int} {b : Int} (hb : isOpen w h l b = true) {v y : Int} (hv : Vd l (dist w l b) v) (hy : y ∈ near w l v) : Vd l (dist w l b) y ∧ rd (dist w l b) y ≤ rd (dist w l b) v + 1 ∧ rd (dist w l b) v ≤ rd (dist w l b) y + 1 := by
  have hl := isOpen_land hb
  have B := bf_dist hb
  have q1 : ∀ v, Vd l (dist w l b) v → ∀ y ∈ near w l v, 0 ≤ rd (dist w l b) y ∧ rd (dist w l b) y ≤ rd (dist w l b) v + 1 := by
    intro v hv
    rcases B.don v hv with h1 | h1
    · simp at h1
    · exact h1
  have h1 := q1 v hv y hy
  have hyv : Vd l (dist w l b) y := ⟨near_in hl hv.1.1 hv.1.2 y hy, h1.1⟩
  exact ⟨hyv, h1.2, (q1 y hyv v (near_sym hl (B.opn v hv) hy)).2⟩
/-- A cell that is reached, not the first: it has a neighbour a day nearer. -/
theorem dist_down {w h : Int} {l : List Int} {b : Int} (hb : isOpen w h l b = true) {v : Int} (hv : Vd l (dist w l b) v) (hne : v ≠ b) : ∃ u ∈ near w l v, Vd l (dist w l b) u ∧ rd (dist w l b) v = rd (dist w l b) u + 1 := by
  have hl := isOpen_land hb
  have B := bf_dist hb
  rcases B.par v hv with h1 | ⟨u, h1, h2, h3⟩
  · exact absurd h1 hne
  · exact ⟨u, near_sym hl (B.opn u h1) h2, h1, h3⟩
theorem dist_self {w h : Int} {l : List Int} {b : Int} (hb : isOpen w h l b = true) : rd (dist w l b) b = 0 := (bf_dist hb).src.2
/-- Who is reached from the one end, reaches the other: with one cell common to both. -/
theorem dist_swap {w h : Int} {l : List Int} {a b : Int} (ha : isOpen w h l a = true) (hb : isOpen w h l b = true) (h1 : 0 ≤ rd (dist w l a) b) : 0 ≤ rd (dist w l b) a := by
  have hl := isOpen_land hb
  have A := bf_dist ha
  obtain ⟨a0, a1, _⟩ := (isOpen_iff hl a).1 ha
  obtain ⟨b0, b1, _⟩ := (isOpen_iff hl b).1 hb
  have key : ∀ (n : Nat) (v : Int), Vd l (dist w l a) v → rd (dist w l a) v = n → 0 ≤ rd (dist w l b) v → 0 ≤ rd (dist w l b) a := by
    intro n
    induction n with
    | zero =>
      intro v hv e hb'
      by_cases hne : v = a
      · subst hne; exact hb'
      · obtain ⟨u, _, hu, he⟩ := dist_down ha hv hne
        have := hu.2
        omega
    | succ n ih =>
      intro v hv e hb'
      by_cases hne : v = a
      · subst hne; exact hb'
      · obtain ⟨u, hn, hu, he⟩ := dist_down ha hv hne
        refine ih u hu (by omega) ?_
        exact (dist_near hb (v := v) ⟨hv.1, hb'⟩ hn).1.2
  have e0 := dist_self hb
  exact key (rd (dist w l a) b).toNat b ⟨⟨b0, b1⟩, h1⟩ (by omega) (by omega)

theorem impl_allIn_ev (l : List Int) (hl : l.length ≤ 17592186044416) : Ev (fun k => impl_allIn.f k l 0 2) (okCells l) := by
  have key : ∀ (d : Nat) (i : Int), 0 ≤ i → i + d = l.length → Ev (fun k => impl_allIn.l0 k 0 2 l (l.length : Int) i) (okCells (l.drop i.toNat)) := by
    intro d
    induction d with
    | zero =>
      intro i h0 hi
      rw [List.drop_eq_nil_of_le (by omega)]
      refine Ev.step (f := fun _ => some true) (fun k => ?_) (Ev.now _)
      simp only [impl_allIn.l0]
      rw [if_neg (by omega)]
    | succ d ih =>
      intro i h0 hi
      have hi2 := ih (i + 1) (by omega) (by omega)
      rw [drop_rd l i h0 (by omega)]
      by_cases c : 0 ≤ rd l i ∧ rd l i ≤ 2
      · rw [show okCells (rd l i :: l.drop (i + 1).toNat) = okCells (l.drop (i + 1).toNat) from by simp [okCells, c]]
        refine Ev.step (f := fun k => impl_allIn.l0 k 0 2 l (l.length : Int) (i + 1)) (fun k => ?_) hi2
        simp only [impl_allIn.l0, impl_InRange_is, Option.bind_some, decide_eq_true c, if_true]
        rw [if_pos (by omega), if_pos h0, if_pos (by omega), wrapS (by omega) (by omega)]
      · rw [show okCells (rd l i :: l.drop (i + 1).toNat) = false from by simp [okCells, c]]
        refine Ev.step (f := fun _ => some false) (fun k => ?_) (Ev.now _)
        simp only [impl_allIn.l0, impl_InRange_is, Option.bind_some, decide_eq_false c, Bool.false_eq_true, if_false]
        rw [if_pos (by omega), if_pos h0, if_pos (by omega)]
  exact key l.length 0 (by omega) (by omega)
theorem impl_IsLand_ev (w h : Int) (l : List Int) (hl : l.length ≤ 17592186044416) : Ev (fun k => impl_IsLand.f k w h l) (isLand w h l) := by
  unfold impl_IsLand.f
  simp only [impl_InRange_is, Option.bind_some]
  by_cases c1 : 1 ≤ w ∧ w ≤ 8
  · by_cases c2 : 1 ≤ h ∧ h ≤ 8
    · simp only [decide_eq_true c1, decide_eq_true c2, if_true, wrap_wh c1 c2]
      by_cases c3 : (l.length : Int) = w * h
      · simp only [if_pos c3]
        rw [show isLand w h l = okCells l from by simp [isLand, c1, c2, c3]]
        exact Ev.bind (impl_allIn_ev l hl) (Ev.now _)
      · simp only [if_neg c3]
        rw [show isLand w h l = false from by simp [isLand, c3]]
        exact Ev.now _
    · simp only [decide_eq_true c1, decide_eq_false c2, if_true, Bool.false_eq_true, if_false]
      rw [show isLand w h l = false from by simp only [isLand, c2, false_and, and_false, decide_false, Bool.false_and]]
      exact Ev.now _
  · simp only [decide_eq_false c1, Bool.false_eq_true, if_false]
    rw [show isLand w h l = false from by simp only [isLand, c1, false_and, decide_false, Bool.false_and]]
    exact Ev.now _

theorem impl_IsCell_ev (w h : Int) (l : List Int) (n : Int) (hl : l.length ≤ 17592186044416) : Ev (fun k => impl_IsCell.f k w h l n) (isCell w h l n) := by
  unfold impl_IsCell.f
  refine Ev.bind (impl_IsLand_ev w h l hl) ?_
  try dsimp only
  cases e : isLand w h l with
  | false =>
    rw [show isCell w h l n = false from by simp [isCell, e]]
    simp only [Bool.false_eq_true, if_false]
    exact Ev.now _
  | true =>
    rw [show isCell w h l n = decide (0 ≤ n ∧ n ≤ (l.length : Int) - 1) from by simp [isCell, e]]
    simp only [if_true, impl_InRange_is, Option.bind_some, wrapS (x := (l.length : Int) - 1) (by omega) (by omega)]
    exact Ev.now _

theorem impl_IsOpen_ev (w h : Int) (l : List Int) (n : Int) (hl : l.length ≤ 17592186044416) : Ev (fun k => impl_IsOpen.f k w h l n) (isOpen w h l n) := by
  unfold impl_IsOpen.f
  refine Ev.bind (impl_IsCell_ev w h l n hl) ?_
  try dsimp only
  cases e : isCell w h l n with
  | false =>
    rw [show isOpen w h l n = false from by simp [isOpen, e]]
    simp only [Bool.false_eq_true, if_false]
    exact Ev.now _
  | true =>
    obtain ⟨h0, h1⟩ := isCell_true e
    rw [show isOpen w h l n = (rd l n != 2) from by simp [isOpen, e]]
    simp only [if_true, if_pos h0, if_pos h1]
    exact Ev.now _

theorem impl_Apart_ev (w h : Int) (l : List Int) (a b : Int) (hl : l.length ≤ 17592186044416) : Ev (fun k => impl_Apart.f k w h l a b) (apart w h l a b) := by
  have jt : Ev (fun k => impl_Apart.j0 k a b true w h l) (-1) := by
    refine Ev.step (f := fun _ => some (-1)) (fun k => ?_) (Ev.now _)
    simp only [impl_Apart.j0, if_true]
  unfold impl_Apart.f
  refine Ev.bind (impl_IsCell_ev w h l a hl) ?_
  try dsimp only
  cases ea : isCell w h l a with
  | false =>
    rw [show apart w h l a b = -1 from by simp [apart, ea]]
    simp only [Bool.false_eq_true, if_false]
    exact jt
  | true =>
    simp only [if_true]
    refine Ev.bind (impl_IsCell_ev w h l b hl) ?_
    try dsimp only
    cases eb : isCell w h l b with
    | false =>
      rw [show apart w h l a b = -1 from by simp [apart, eb]]
      exact jt
    | true =>
      obtain ⟨w1, w2, a1, a2, a3, a4, a5, a6⟩ := cell_bounds ea
      obtain ⟨_, _, b1, b2, b3, b4, b5, b6⟩ := cell_bounds eb
      rw [show apart w h l a b = absI (a % w - b % w) + absI (a / w - b / w) from by simp [apart, ea, eb]]
      refine Ev.step (f := fun _ => some (absI (a % w - b % w) + absI (a / w - b / w))) (fun k => ?_) (Ev.now _)
      have e1 := Int.tmod_eq_emod_of_nonneg a1 (b := w)
      have e2 := Int.tmod_eq_emod_of_nonneg b1 (b := w)
      have e3 := Int.tdiv_eq_ediv_of_nonneg a1 (b := w)
      have e4 := Int.tdiv_eq_ediv_of_nonneg b1 (b := w)
      simp only [impl_Apart.j0, Bool.not_true, Bool.false_eq_true, if_false, impl_size.f, Option.bind_some, e1, e2, e3, e4]
      rw [if_neg (by omega)]
      generalize a % w = p at *
      generalize b % w = q at *
      generalize a / w = r at *
      generalize b / w = s at *
      rw [wrapS (x := p - q) (by omega) (by omega), wrapS (x := r) (by omega) (by omega), wrapS (x := s) (by omega) (by omega), wrapS (x := r - s) (by omega) (by omega), wrapS (x := -(p - q)) (by omega) (by omega), wrapS (x := -(r - s)) (by omega) (by omega)]
      have f1 : mx (p - q) (-(p - q)) = absI (p - q) := by unfold mx absI; split <;> split <;> omega
      have f2 : mx (r - s) (-(r - s)) = absI (r - s) := by unfold mx absI; split <;> split <;> omega
      rw [f1, f2]
      have g1 : 0 ≤ absI (p - q) ∧ absI (p - q) ≤ 100 := by unfold absI; split <;> omega
      have g2 : 0 ≤ absI (r - s) ∧ absI (r - s) ≤ 100 := by unfold absI; split <;> omega
      rw [wrapS (by omega) (by omega)]

theorem compact_asc (l : List Int) (h : l.Pairwise (· < ·)) : Go.Lib.compact l = l := by
  refine Go.Lib.compact_all l (fun j hj => ?_)
  simp only [Go.Lib.keeps, decide_eq_true_eq]
  by_cases h0 : j = 0
  · exact Or.inl h0
  · refine Or.inr ?_
    have hlt := List.pairwise_iff_getElem.1 h (j - 1) j (by omega) hj (by omega)
    rw [getElem!_pos l.toArray j (by simpa using hj), getElem!_pos l.toArray (j - 1) (by simp; omega)]
    simp only [List.getElem_toArray]
    omega
theorem compact_two (x : Int) : Go.Lib.compact [x, x] = [x] := by
  simp [Go.Lib.compact, Go.Lib.compactUpTo, Go.Lib.keeps, List.range_succ]
theorem compact_four (x y : Int) (h : x ≠ y) : Go.Lib.compact [x, x, y, y] = [x, y] := by
  simp [Go.Lib.compact, Go.Lib.compactUpTo, Go.Lib.keeps, List.range_succ, h, Ne.symm h]
def nearOk (w h : Int) (l : List Int) (n m : Int) : Bool := isOpen w h l m && (apart w h l n m == 1)
theorem impl_Near_loop (w h : Int) (l : List Int) (n : Int) (hl : l.length ≤ 64) (ys : List Int) (hys : ys.length ≤ 4) : ∀ (d : Nat) (o : List Int) (i : Int), 0 ≤ i → i + d = ys.length → o.length ≤ i.toNat → Ev (fun k => impl_Near.l0 k n o ys (ys.length : Int) i w h l) (Go.Lib.compact (o ++ (ys.drop i.toNat).filter (nearOk w h l n))) := by
  intro d
  induction d with
  | zero =>
    intro o i h0 hi ho
    rw [List.drop_eq_nil_of_le (by omega), List.filter_nil, List.append_nil]
    refine Ev.step (f := fun _ => some (Go.Lib.compact o)) (fun k => ?_) (Ev.now _)
    simp only [impl_Near.l0, slices_Compact_int_int.f, Option.bind_some]
    rw [if_neg (by omega)]
  | succ d ih =>
    intro o i h0 hi ho
    have hw : wrap64 (i + 1) = i + 1 := wrapS (by omega) (by omega)
    rw [drop_rd ys i h0 (by omega), List.filter_cons]
    by_cases c1 : isOpen w h l (rd ys i) = true
    · by_cases c2 : apart w h l n (rd ys i) = 1
      · rw [if_pos (by simp [nearOk, c1, c2])]
        have hi2 := ih (o ++ [rd ys i]) (i + 1) (by omega) (by omega) (by simp; omega)
        rw [List.append_assoc, List.singleton_append] at hi2
        refine Ev.step (f := fun k => (impl_IsOpen.f k w h l (rd ys i)).bind fun t => if t = true then (impl_Apart.f k w h l n (rd ys i)).bind fun t2 => (if t2 = 1 then impl_Near.l0 k n (o ++ [rd ys i]) ys (ys.length : Int) (i + 1) w h l else impl_Near.l0 k n o ys (ys.length : Int) (i + 1) w h l) else impl_Near.l0 k n o ys (ys.length : Int) (i + 1) w h l) (fun k => ?_) (Ev.bind (impl_IsOpen_ev w h l _ (by omega)) ?_)
        · simp only [impl_Near.l0, hw]
          rw [if_pos (by omega), if_pos h0, if_pos (by omega)]
          simp only [if_pos (show o.length < 17592186044416 from by omega)]
        · rw [c1]
          simp only [if_true]
          refine Ev.bind (impl_Apart_ev w h l n _ (by omega)) ?_
          rw [c2]
          simp only [if_true]
          exact hi2
      · rw [if_neg (by simp [nearOk, c2])]
        have hi2 := ih o (i + 1) (by omega) (by omega) (by omega)
        refine Ev.step (f := fun k => (impl_IsOpen.f k w h l (rd ys i)).bind fun t => if t = true then (impl_Apart.f k w h l n (rd ys i)).bind fun t2 => (if t2 = 1 then impl_Near.l0 k n (o ++ [rd ys i]) ys (ys.length : Int) (i + 1) w h l else impl_Near.l0 k n o ys (ys.length : Int) (i + 1) w h l) else impl_Near.l0 k n o ys (ys.length : Int) (i + 1) w h l) (fun k => ?_) (Ev.bind (impl_IsOpen_ev w h l _ (by omega)) ?_)
        · simp only [impl_Near.l0, hw]
          rw [if_pos (by omega), if_pos h0, if_pos (by omega)]
          simp only [if_pos (show o.length < 17592186044416 from by omega)]
        · rw [c1]
          simp only [if_true]
          refine Ev.bind (impl_Apart_ev w h l n _ (by omega)) ?_
          simp only [if_neg c2]
          exact hi2
    · rw [if_neg (by simp [nearOk, c1])]
      have hi2 := ih o (i + 1) (by omega) (by omega) (by omega)
      rw [Bool.not_eq_true] at c1
      refine Ev.step (f := fun k => (impl_IsOpen.f k w h l (rd ys i)).bind fun t => if t = true then (impl_Apart.f k w h l n (rd ys i)).bind fun t2 => (if t2 = 1 then impl_Near.l0 k n (o ++ [rd ys i]) ys (ys.length : Int) (i + 1) w h l else impl_Near.l0 k n o ys (ys.length : Int) (i + 1) w h l) else impl_Near.l0 k n o ys (ys.length : Int) (i + 1) w h l) (fun k => ?_) (Ev.bind (impl_IsOpen_ev w h l _ (by omega)) ?_)
      · simp only [impl_Near.l0, hw]
        rw [if_pos (by omega), if_pos h0, if_pos (by omega)]
        simp only [if_pos (show o.length < 17592186044416 from by omega)]
      · rw [c1]
        simp only [Bool.false_eq_true, if_false]
        exact hi2
/-- The four that are tried, those that are beside, each once. -/
theorem near_filter {w h : Int} {l : List Int} {n : Int} (hc : isCell w h l n = true) : Go.Lib.compact ([n - w, n - 1, n + 1, n + w].filter (nearOk w h l n)) = near w l n := by
  have hl := isCell_land hc
  obtain ⟨hw, hh, hlen, h64, _⟩ := isLand_true hl
  obtain ⟨h0, h1⟩ := isCell_true hc
  have m1 := Int.emod_nonneg n (show w ≠ 0 by omega)
  have m2 : n % w ≤ n := by
    have := Int.emod_add_mul_ediv n w
    have := Int.mul_nonneg (show 0 ≤ w by omega) (Int.ediv_nonneg h0 (show 0 ≤ w by omega))
    omega
  have ok : ∀ m, nearOk w h l n m = true ↔ (0 ≤ m ∧ m < l.length ∧ rd l m ≠ 2) ∧ step w n m = 1 := by
    intro m
    unfold nearOk
    rw [Bool.and_eq_true, isOpen_iff hl, beq_iff_eq]
    constructor
    · rintro ⟨ho, ha⟩
      exact ⟨ho, by rw [← apart_step hc (isCell_mk hl ho.1 ho.2.1)]; exact ha⟩
    · rintro ⟨ho, ha⟩
      exact ⟨ho, by rw [apart_step hc (isCell_mk hl ho.1 ho.2.1)]; exact ha⟩
  by_cases w1 : w = 1
  · subst w1
    have hA : nearOk 1 h l n (n - 1) = decide ((1 : Int) ≤ n ∧ rd l (n - 1) ≠ 2) := by
      rw [Bool.eq_iff_iff, ok, decide_eq_true_eq]
      have := step_up 1 n hw
      constructor
      · rintro ⟨⟨a, b, c⟩, _⟩; exact ⟨by omega, c⟩
      · rintro ⟨a, c⟩; exact ⟨⟨by omega, by omega, c⟩, this⟩
    have hD : nearOk 1 h l n (n + 1) = decide (n + 1 < (l.length : Int) ∧ rd l (n + 1) ≠ 2) := by
      rw [Bool.eq_iff_iff, ok, decide_eq_true_eq]
      have := step_down 1 n hw
      constructor
      · rintro ⟨⟨a, b, c⟩, _⟩; exact ⟨b, c⟩
      · rintro ⟨a, c⟩; exact ⟨⟨by omega, a, c⟩, this⟩
    unfold near
    rw [if_neg (c := 0 < n % 1 ∧ rd l (n - 1) ≠ 2) (by omega), if_neg (c := n % 1 < 1 - 1 ∧ rd l (n + 1) ≠ 2) (by omega)]
    simp only [List.filter_cons, List.filter_nil, hA, hD]
    by_cases cA : (1 : Int) ≤ n ∧ rd l (n - 1) ≠ 2 <;> by_cases cD : n + 1 < (l.length : Int) ∧ rd l (n + 1) ≠ 2
    · simp only [decide_eq_true cA, decide_eq_true cD, if_true, if_pos cA, if_pos cD]
      rw [compact_four _ _ (by omega)]
      rfl
    · simp only [decide_eq_true cA, decide_eq_false cD, if_true, if_pos cA, if_neg cD, Bool.false_eq_true, if_false]
      rw [compact_two]
      rfl
    · simp only [decide_eq_false cA, decide_eq_true cD, if_true, if_neg cA, if_pos cD, Bool.false_eq_true, if_false]
      rw [compact_two]
      rfl
    · simp only [decide_eq_false cA, decide_eq_false cD, if_neg cA, if_neg cD, Bool.false_eq_true, if_false]
      rfl
  · have hA : nearOk w h l n (n - w) = decide (w ≤ n ∧ rd l (n - w) ≠ 2) := by
      rw [Bool.eq_iff_iff, ok, decide_eq_true_eq]
      have := step_up w n hw
      constructor
      · rintro ⟨⟨a, b, c⟩, _⟩; exact ⟨by omega, c⟩
      · rintro ⟨a, c⟩; exact ⟨⟨by omega, by omega, c⟩, this⟩
    have hB : nearOk w h l n (n - 1) = decide (0 < n % w ∧ rd l (n - 1) ≠ 2) := by
      rw [Bool.eq_iff_iff, ok, decide_eq_true_eq, step_left w n hw]
      constructor
      · rintro ⟨⟨a, b, c⟩, d⟩; exact ⟨by omega, c⟩
      · rintro ⟨a, c⟩; exact ⟨⟨by omega, by omega, c⟩, Or.inl a⟩
    have hC : nearOk w h l n (n + 1) = decide (n % w < w - 1 ∧ rd l (n + 1) ≠ 2) := by
      rw [Bool.eq_iff_iff, ok, decide_eq_true_eq, step_right w n hw]
      constructor
      · rintro ⟨⟨a, b, c⟩, d⟩; exact ⟨by omega, c⟩
      · rintro ⟨a, c⟩; exact ⟨⟨by omega, mod_len hl n h0 h1 a, c⟩, Or.inl a⟩
    have hD : nearOk w h l n (n + w) = decide (n + w < (l.length : Int) ∧ rd l (n + w) ≠ 2) := by
      rw [Bool.eq_iff_iff, ok, decide_eq_true_eq]
      have := step_down w n hw
      constructor
      · rintro ⟨⟨a, b, c⟩, _⟩; exact ⟨b, c⟩
      · rintro ⟨a, c⟩; exact ⟨⟨by omega, a, c⟩, this⟩
    have e : [n - w, n - 1, n + 1, n + w].filter (nearOk w h l n) = near w l n := by
      unfold near
      simp only [List.filter_cons, List.filter_nil, hA, hB, hC, hD, decide_eq_true_eq]
      split <;> split <;> split <;> split <;> rfl
    rw [e]
    exact compact_asc _ (near_asc w l n hw.1)
theorem impl_Near_ev (w h : Int) (l : List Int) (n : Int) (hl : l.length ≤ 1048576) (hw : -9223372036854775808 ≤ w ∧ w ≤ 9223372036854775807) : Ev (fun k => impl_Near.f k w h l n) (if isCell w h l n = true then near w l n else []) := by
  unfold impl_Near.f
  refine Ev.bind (impl_IsCell_ev w h l n (by omega)) ?_
  by_cases hc : isCell w h l n = true
  · have hld := isCell_land hc
    obtain ⟨hw8, hh, hlen, h64, _⟩ := isLand_true hld
    obtain ⟨h0, h1⟩ := isCell_true hc
    rw [hc]
    simp only [if_true, Option.bind_some]
    rw [wrapS (x := n - w) (by omega) (by omega), wrapS (x := n - 1) (by omega) (by omega), wrapS (x := n + 1) (by omega) (by omega), wrapS (x := n + w) (by omega) (by omega)]
    have hh := impl_Near_loop w h l n h64 [n - w, n - 1, n + 1, n + w] (by simp) 4 [] 0 (by omega) (by simp) (by simp)
    rw [show (0 : Int).toNat = 0 from rfl, List.drop_zero, List.nil_append, near_filter hc] at hh
    exact hh
  · rw [Bool.not_eq_true] at hc
    rw [hc]
    simp only [Bool.false_eq_true, if_false]
    exact Ev.now _

theorem impl_distances_l3 (w h : Int) (l : List Int) (hl : isLand w h l = true) (c : Int) (ys : List Int) (hys : ∀ x ∈ ys, 0 ≤ x ∧ x < l.length) (hyl : ys.length ≤ 4) (r : List Int) : ∀ (n : Nat) (d q : List Int) (i : Int), 0 ≤ i → i + n = ys.length → BInv l d → (0 ≤ c ∧ c < l.length ∧ 0 ≤ rd d c) → q.length + neg d ≤ 1000 → Ev (fun k => impl_distances.l2 k (vis c (ys.drop i.toNat) d).1 (q ++ (vis c (ys.drop i.toNat) d).2) w h l) r → Ev (fun k => impl_distances.l3 k d q c ys (ys.length : Int) i w h l) r := by
  obtain ⟨_, _, _, h64, _⟩ := isLand_true hl
  intro n
  induction n with
  | zero =>
    intro d q i h0 hi hd hc hq hr
    rw [List.drop_eq_nil_of_le (by omega)] at hr
    simp only [vis, List.append_nil] at hr
    refine Ev.step (f := fun k => impl_distances.l2 k d q w h l) (fun k => ?_) hr
    simp only [impl_distances.l3]
    rw [if_neg (by omega)]
  | succ n ih =>
    intro d q i h0 hi hd hc hq hr
    rw [drop_rd ys i h0 (by omega)] at hr
    have hx := hys (rd ys i) (rd_in ys i h0 (by omega))
    have hw : wrap64 (i + 1) = i + 1 := wrapS (by omega) (by omega)
    have hlen := hd.1
    by_cases hn : rd d (rd ys i) < 0
    · obtain ⟨b1, b2, b3, b4⟩ := binv_set hd hc hx.1 hx.2 hn
      have hc' := b4 c hc.1 hc.2.2
      have hbc := hd.2 c hc.1
      have hw2 : wrap64 (rd d c + 1) = rd d c + 1 := wrapS (by omega) (by omega)
      simp only [vis, if_pos hn] at hr
      refine Ev.step (f := fun k => impl_distances.l3 k (d.set (rd ys i).toNat (rd d c + 1)) (q ++ [rd ys i]) c ys (ys.length : Int) (i + 1) w h l) (fun k => ?_) (ih _ _ _ (by omega) (by omega) b1 ⟨hc.1, hc.2.1, by rw [hc']; exact hc.2.2⟩ (by rw [List.length_append, List.length_singleton]; omega) ?_)
      · simp only [impl_distances.l3, hw, hw2]
        rw [if_pos (by omega), if_pos h0, if_pos (by omega), if_pos hx.1, if_pos (by omega), if_pos hn, if_pos hc.1, if_pos (by omega), if_pos (by omega)]
      · rw [List.append_assoc, List.singleton_append]
        exact hr
    · simp only [vis, if_neg hn] at hr
      refine Ev.step (f := fun k => impl_distances.l3 k d q c ys (ys.length : Int) (i + 1) w h l) (fun k => ?_) (ih _ _ _ (by omega) (by omega) hd hc hq hr)
      simp only [impl_distances.l3, hw]
      rw [if_pos (by omega), if_pos h0, if_pos (by omega), if_pos hx.1, if_pos (by omega), if_neg hn]
theorem impl_distances_l2 (w h : Int) (l : List Int) (hl : isLand w h l = true) : ∀ (f : Nat) (d q : List Int), BInv l d → QInv l d q → q.length + neg d < f → f ≤ 900 → Ev (fun k => impl_distances.l2 k d q w h l) (bfs w l f d q) := by
  obtain ⟨hw8, _, _, h64, _⟩ := isLand_true hl
  intro f
  induction f with
  | zero => intro d q _ _ h _; omega
  | succ f ih =>
    intro d q hd hq hf h9
    cases q with
    | nil =>
      refine Ev.step (f := fun _ => some d) (fun k => ?_) (Ev.now _)
      simp [impl_distances.l2]
    | cons c q =>
      obtain ⟨i1, i2, i3⟩ := qinv_next hl hd hq
      have hc := hq c List.mem_cons_self
      rw [List.length_cons] at hf
      have hn := impl_Near_ev w h l c (by omega) (by omega)
      rw [if_pos (isCell_mk hl hc.1 hc.2.1)] at hn
      refine Ev.step (f := fun k => (impl_Near.f k w h l c).bind fun t => impl_distances.l3 k d q c t (t.length : Int) 0 w h l) (fun k => ?_) (Ev.bind hn ?_)
      · have e1 : ((c :: q).length : Int) > 0 := by rw [List.length_cons]; omega
        have e2 : (1 : Int) ≤ ((c :: q).length : Int) := by rw [List.length_cons]; omega
        simp only [impl_distances.l2]
        rw [if_pos e1, if_pos e1, if_pos e2]
        rfl
      · have h4 := near_length w l c
        refine impl_distances_l3 w h l hl c (near w l c) (near_in hl hc.1 hc.2.1) h4 _ (near w l c).length d q 0 (by omega) (by omega) hd hc (by omega) ?_
        simp only [show (0 : Int).toNat = 0 from rfl, List.drop_zero]
        exact ih _ _ i1 i2 (by rw [List.length_append]; omega) (by omega)
theorem impl_distances_ev (w h : Int) (l : List Int) (a : Int) (ho : isOpen w h l a = true) : Ev (fun k => impl_distances.f k w h l [a]) (dist w l a) := by
  have hl := isOpen_land ho
  obtain ⟨hw8, _, _, h64, _⟩ := isLand_true hl
  obtain ⟨h0, h1, h2⟩ := (isOpen_iff hl a).1 ho
  have key : ∀ (n : Nat) (i : Int), 0 ≤ i → i + n = l.length → Ev (fun k => impl_distances.l0 k [a] (List.replicate i.toNat (-1)) (l.length : Int) i w h l) (dist w l a) := by
    intro n
    induction n with
    | zero =>
      intro i hi hs
      have hr : rd (List.replicate i.toNat (-1)) a = -1 := by
        show (List.replicate i.toNat (-1 : Int)).getD a.toNat 0 = -1
        rw [List.getD_eq_getElem?_getD, List.getElem?_replicate, if_pos (by omega)]
        rfl
      have hwr : wrap64 (0 + 1) = 1 := wrapS (by omega) (by omega)
      obtain ⟨i1, i2, i3⟩ := dist0_inv h0 h1
      refine Ev.step (f := fun k => impl_distances.l1 k (List.replicate i.toNat (-1)) [] [a] 1 0 w h l) (fun k => ?_) ?_
      · simp only [impl_distances.l0]
        rw [if_neg (by omega)]
        rfl
      refine Ev.step (f := fun k => (impl_IsOpen.f k w h l a).bind fun t => if t = true then impl_distances.l1 k (dist0 l a) [a] [a] 1 1 w h l else impl_distances.l1 k (List.replicate i.toNat (-1)) [] [a] 1 1 w h l) (fun k => ?_) (Ev.bind (impl_IsOpen_ev w h l a (by omega)) ?_)
      · have e0 : rd [a] 0 = a := rfl
        simp only [impl_distances.l1, e0, hwr, hr, List.length_replicate, List.length_singleton, List.length_nil, List.nil_append]
        rw [if_pos (by omega), if_pos (by omega), if_pos (by omega)]
        have e3 : i.toNat = l.length := by omega
        simp only [if_pos h0, if_pos (show (-1 : Int) < 0 from by omega), if_pos (show (0 : Nat) < 17592186044416 from by omega), e3, if_pos h1, dist0]
      · rw [ho]
        simp only [if_true]
        refine Ev.step (f := fun k => impl_distances.l2 k (dist0 l a) [a] w h l) (fun k => ?_) (impl_distances_l2 w h l hl (l.length + 1) (dist0 l a) [a] i1 i2 (by simp; omega) (by omega))
        simp only [impl_distances.l1]
        rw [if_neg (by omega)]
    | succ n ih =>
      intro i hi hs
      have hwr : wrap64 (i + 1) = i + 1 := wrapS (by omega) (by omega)
      have hh := ih (i + 1) (by omega) (by omega)
      rw [show (i + 1).toNat = i.toNat + 1 from by omega, List.replicate_succ'] at hh
      refine Ev.step (f := fun k => impl_distances.l0 k [a] (List.replicate i.toNat (-1) ++ [-1]) (l.length : Int) (i + 1) w h l) (fun k => ?_) hh
      simp only [impl_distances.l0, hwr, List.length_replicate]
      rw [if_pos (by omega), if_pos (by omega)]
  unfold impl_distances.f
  exact key l.length 0 (by omega) (by omega)

theorem spec_l4Near_ev (w h : Int) (l : List Int) (n : Int) (hc : isCell w h l n = true) : Ev (fun k => spec_l4Near.f k w h l n) (near w l n) := by
  have hl := isCell_land hc
  obtain ⟨hw, hh, hlen, h64, _⟩ := isLand_true hl
  obtain ⟨h0, h1⟩ := isCell_true hc
  have m1 := Int.emod_nonneg n (show w ≠ 0 by omega)
  have m2 : n % w ≤ n := by
    have := Int.emod_add_mul_ediv n w
    have := Int.mul_nonneg (show 0 ≤ w by omega) (Int.ediv_nonneg h0 (show 0 ≤ w by omega))
    omega
  have m3 := fun hx => mod_len hl n h0 h1 hx
  have et : Int.tmod n w = n % w := Int.tmod_eq_emod_of_nonneg h0
  have e1 : wrap64 (n - w) = n - w := wrapS (by omega) (by omega)
  have e2 : wrap64 (n - 1) = n - 1 := wrapS (by omega) (by omega)
  have e3 : wrap64 (n + 1) = n + 1 := wrapS (by omega) (by omega)
  have e4 : wrap64 (n + w) = n + w := wrapS (by omega) (by omega)
  have e5 : wrap64 (w - 1) = w - 1 := wrapS (by omega) (by omega)
  generalize hA : (if w ≤ n ∧ rd l (n - w) ≠ 2 then [n - w] else []) = A
  generalize hB : (if 0 < n % w ∧ rd l (n - 1) ≠ 2 then [n - 1] else []) = B
  generalize hC : (if n % w < w - 1 ∧ rd l (n + 1) ≠ 2 then [n + 1] else []) = C
  generalize hD : (if n + w < l.length ∧ rd l (n + w) ≠ 2 then [n + w] else []) = D
  have lA : A.length ≤ 1 := by rw [← hA]; split <;> simp
  have lB : B.length ≤ 1 := by rw [← hB]; split <;> simp
  have lC : C.length ≤ 1 := by rw [← hC]; split <;> simp
  have k4 : ∀ (o : List Int) (c : Bool), o.length ≤ 3 → (if c = true then [n + 1] else []) = C → Ev (fun k => spec_l4Near.j4 k n o c w h l) (o ++ (C ++ D)) := by
    intro o c ho hcC
    have fin : ∀ o' : List Int, o'.length ≤ 4 → (if n + w < (l.length : Int) then (if 0 ≤ n + w then (if rd l (n + w) = 2 then some o' else (if o'.length < 17592186044416 then some (o' ++ [n + w]) else none)) else none) else some o') = some (o' ++ D) := by
      intro o' ho'
      rw [← hD]
      by_cases c1 : n + w < (l.length : Int)
      · rw [if_pos c1, if_pos (by omega)]
        by_cases c2 : rd l (n + w) = 2
        · rw [if_pos c2, if_neg (fun h => h.2 c2), List.append_nil]
        · rw [if_neg c2, if_pos (by omega), if_pos ⟨c1, c2⟩]
      · rw [if_neg c1, if_neg (fun h => c1 h.1), List.append_nil]
    refine Ev.step (f := fun _ => some (o ++ (C ++ D))) (fun k => ?_) (Ev.now _)
    cases c with
    | true =>
      simp only [if_true] at hcC
      simp only [spec_l4Near.j4, if_true, e3, e4, Option.bind_some]
      rw [if_pos (by omega), fin _ (by simp; omega), ← hcC, List.append_assoc]
    | false =>
      simp only [Bool.false_eq_true, if_false] at hcC
      simp only [spec_l4Near.j4, Bool.false_eq_true, if_false, e4]
      rw [fin _ (by omega), ← hcC, List.nil_append]
  have k3 : ∀ (o : List Int), o.length ≤ 3 → Ev (fun k => spec_l4Near.j3 k n o w h l) (o ++ (C ++ D)) := by
    intro o ho
    by_cases c1 : n % w < w - 1
    · have := m3 c1
      refine Ev.step (f := fun k => spec_l4Near.j4 k n o (rd l (n + 1) != 2) w h l) (fun k => ?_) (k4 o _ ho ?_)
      · simp only [spec_l4Near.j3, et, e3, e5]
        rw [if_neg (by omega), if_pos c1, if_pos (by omega), if_pos (by omega)]
      · rw [← hC]
        by_cases c2 : rd l (n + 1) = 2 <;> simp [c1, c2]
    · refine Ev.step (f := fun k => spec_l4Near.j4 k n o false w h l) (fun k => ?_) (k4 o _ ho ?_)
      · simp only [spec_l4Near.j3, et, e5]
        rw [if_neg (by omega), if_neg c1]
      · rw [← hC]
        simp [c1]
  have k2 : ∀ (o : List Int) (c : Bool), o.length ≤ 2 → (if c = true then [n - 1] else []) = B → Ev (fun k => spec_l4Near.j2 k n o c w h l) (o ++ (B ++ (C ++ D))) := by
    intro o c ho hcB
    cases c with
    | true =>
      simp only [if_true] at hcB
      have hh := k3 (o ++ B) (by rw [← hcB]; simp; omega)
      rw [List.append_assoc] at hh
      refine Ev.step (f := fun k => spec_l4Near.j3 k n (o ++ B) w h l) (fun k => ?_) hh
      simp only [spec_l4Near.j2, if_true, e2]
      rw [if_pos (by omega), ← hcB]
    | false =>
      simp only [Bool.false_eq_true, if_false] at hcB
      have hh := k3 o (by omega)
      refine Ev.step (f := fun k => spec_l4Near.j3 k n o w h l) (fun k => ?_) (by rw [← hcB, List.nil_append]; exact hh)
      simp only [spec_l4Near.j2, Bool.false_eq_true, if_false]
  have k1 : ∀ (o : List Int), o.length ≤ 2 → Ev (fun k => spec_l4Near.j1 k n o w h l) (o ++ (B ++ (C ++ D))) := by
    intro o ho
    by_cases c1 : 0 < n % w
    · refine Ev.step (f := fun k => spec_l4Near.j2 k n o (rd l (n - 1) != 2) w h l) (fun k => ?_) (k2 o _ ho ?_)
      · simp only [spec_l4Near.j1, et, e2]
        rw [if_neg (by omega), if_pos c1, if_pos (by omega), if_pos (by omega)]
      · rw [← hB]
        by_cases c2 : rd l (n - 1) = 2 <;> simp [c1, c2]
    · refine Ev.step (f := fun k => spec_l4Near.j2 k n o false w h l) (fun k => ?_) (k2 o _ ho ?_)
      · simp only [spec_l4Near.j1, et]
        rw [if_neg (by omega), if_neg c1]
      · rw [← hB]
        simp [c1]
  have k0 : ∀ (c : Bool), (if c = true then [n - w] else []) = A → Ev (fun k => spec_l4Near.j0 k n [] c w h l) (A ++ (B ++ (C ++ D))) := by
    intro c hcA
    cases c with
    | true =>
      simp only [if_true] at hcA
      have hh := k1 A (by omega)
      refine Ev.step (f := fun k => spec_l4Near.j1 k n A w h l) (fun k => ?_) hh
      simp only [spec_l4Near.j0, if_true, e1, List.nil_append, List.length_nil]
      rw [if_pos (by omega), hcA]
    | false =>
      simp only [Bool.false_eq_true, if_false] at hcA
      have hh := k1 [] (by simp)
      refine Ev.step (f := fun k => spec_l4Near.j1 k n [] w h l) (fun k => ?_) (by rw [← hcA]; exact hh)
      simp only [spec_l4Near.j0, Bool.false_eq_true, if_false]
  unfold spec_l4Near.f near
  rw [hA, hB, hC, hD]
  simp only [Option.bind_some, e1]
  by_cases c1 : n ≥ w
  · simp only [if_pos c1, if_pos (show 0 ≤ n - w from by omega), if_pos (show n - w < (l.length : Int) from by omega)]
    refine k0 _ ?_
    rw [← hA]
    by_cases c2 : rd l (n - w) = 2 <;> simp [c2] <;> omega
  · simp only [if_neg c1]
    refine k0 _ ?_
    rw [← hA]
    simp
    omega

theorem spec_l5From_l2 (w h : Int) (l : List Int) (hl : isLand w h l = true) (c : Int) (ys : List Int) (hys : ∀ x ∈ ys, 0 ≤ x ∧ x < l.length) (hyl : ys.length ≤ 4) (r : List Int) (p : Int) (hp : 0 ≤ p) : ∀ (n : Nat) (d Q q : List Int) (i : Int), 0 ≤ i → i + n = ys.length → BInv l d → (0 ≤ c ∧ c < l.length ∧ 0 ≤ rd d c) → Q.length + neg d ≤ 1000 → Q.drop p.toNat = c :: q → (∀ Q', Q'.length + neg (vis c (ys.drop i.toNat) d).1 = Q.length + neg d → Q'.drop p.toNat = c :: (q ++ (vis c (ys.drop i.toNat) d).2) → Ev (fun k => spec_l5From.l1 k (vis c (ys.drop i.toNat) d).1 Q' (wrap64 (p + 1)) w h l) r) → Ev (fun k => spec_l5From.l2 k d Q p ys i w h l) r := by
  obtain ⟨_, _, _, h64, _⟩ := isLand_true hl
  intro n
  induction n with
  | zero =>
    intro d Q q i h0 hi hd hc hq hQ hr
    rw [List.drop_eq_nil_of_le (by omega)] at hr
    simp only [vis, List.append_nil] at hr
    refine Ev.step (f := fun k => spec_l5From.l1 k d Q (wrap64 (p + 1)) w h l) (fun k => ?_) (hr Q rfl hQ)
    simp only [spec_l5From.l2]
    rw [if_neg (by omega)]
  | succ n ih =>
    intro d Q q i h0 hi hd hc hq hQ hr
    rw [drop_rd ys i h0 (by omega)] at hr
    have hx := hys (rd ys i) (rd_in ys i h0 (by omega))
    have hw : wrap64 (i + 1) = i + 1 := wrapS (by omega) (by omega)
    have hlen := hd.1
    have hQl : p.toNat < Q.length := by
      have := congrArg List.length hQ
      rw [List.length_drop, List.length_cons] at this
      omega
    by_cases hn : rd d (rd ys i) < 0
    · obtain ⟨b1, b2, b3, b4⟩ := binv_set hd hc hx.1 hx.2 hn
      have hc' := b4 c hc.1 hc.2.2
      have hbc := hd.2 c hc.1
      have hw2 : wrap64 (rd d c + 1) = rd d c + 1 := wrapS (by omega) (by omega)
      simp only [vis, if_pos hn] at hr
      refine Ev.step (f := fun k => spec_l5From.l2 k (d.set (rd ys i).toNat (rd d c + 1)) (Q ++ [rd ys i]) p ys (i + 1) w h l) (fun k => ?_) (ih _ (Q ++ [rd ys i]) (q ++ [rd ys i]) _ (by omega) (by omega) b1 ⟨hc.1, hc.2.1, by rw [hc']; exact hc.2.2⟩ (by rw [List.length_append, List.length_singleton]; omega) ?_ ?_)
      · simp only [spec_l5From.l2, hw, rd_mid Q p c q hQ, hw2]
        rw [if_pos (by omega), if_pos h0, if_pos hx.1, if_pos (by omega), if_pos hn, if_pos hp, if_pos (by omega), if_pos hc.1, if_pos (by omega), if_pos (by omega)]
      · rw [List.drop_append_of_le_length (by omega), hQ, List.cons_append]
      · intro Q' hl' hd'
        rw [List.length_append, List.length_singleton] at hl'
        refine hr Q' ?_ ?_
        · show Q'.length + neg (vis c (List.drop (i + 1).toNat ys) (d.set (rd ys i).toNat (rd d c + 1))).1 = _
          omega
        · rw [hd', List.append_assoc, List.singleton_append]
    · simp only [vis, if_neg hn] at hr
      refine Ev.step (f := fun k => spec_l5From.l2 k d Q p ys (i + 1) w h l) (fun k => ?_) (ih _ _ _ _ (by omega) (by omega) hd hc hq hQ hr)
      simp only [spec_l5From.l2, hw]
      rw [if_pos (by omega), if_pos h0, if_pos hx.1, if_pos (by omega), if_neg hn]
theorem spec_l5From_l1 (w h : Int) (l : List Int) (hl : isLand w h l = true) : ∀ (f : Nat) (d Q q : List Int) (p : Int), 0 ≤ p → Q.drop p.toNat = q → p.toNat ≤ Q.length → Q.length + neg d ≤ 900 → BInv l d → QInv l d q → q.length + neg d < f → Ev (fun k => spec_l5From.l1 k d Q p w h l) (bfs w l f d q) := by
  obtain ⟨hw8, _, _, h64, _⟩ := isLand_true hl
  intro f
  induction f with
  | zero => intro d Q q p _ _ _ _ _ _ h; omega
  | succ f ih =>
    intro d Q q p hp hQ hpl h9 hd hq hf
    have hln := congrArg List.length hQ
    rw [List.length_drop] at hln
    cases q with
    | nil =>
      rw [List.length_nil] at hln
      refine Ev.step (f := fun _ => some d) (fun k => ?_) (Ev.now _)
      simp only [spec_l5From.l1]
      rw [if_neg (by omega)]
    | cons c q =>
      obtain ⟨i1, i2, i3⟩ := qinv_next hl hd hq
      have hc := hq c List.mem_cons_self
      rw [List.length_cons] at hf hln
      have hw : wrap64 (p + 1) = p + 1 := wrapS (by omega) (by omega)
      refine Ev.step (f := fun k => (spec_l4Near.f k w h l c).bind fun t => spec_l5From.l2 k d Q p t 0 w h l) (fun k => ?_) (Ev.bind (spec_l4Near_ev w h l c (isCell_mk hl hc.1 hc.2.1)) ?_)
      · simp only [spec_l5From.l1, rd_mid Q p c q hQ]
        rw [if_pos (by omega), if_pos hp]
      · have h4 := near_length w l c
        refine spec_l5From_l2 w h l hl c (near w l c) (near_in hl hc.1 hc.2.1) h4 _ p hp (near w l c).length d Q q 0 (by omega) (by omega) hd hc (by omega) hQ ?_
        simp only [show (0 : Int).toNat = 0 from rfl, List.drop_zero]
        intro Q' hl' hd'
        rw [hw]
        refine ih _ _ _ _ (by omega) ?_ ?_ (by omega) i1 i2 (by rw [List.length_append]; omega)
        · rw [show (p + 1).toNat = p.toNat + 1 from by omega, ← List.drop_drop, hd']
          rfl
        · have := congrArg List.length hd'
          rw [List.length_drop, List.length_cons] at this
          omega
theorem spec_l5From_ev (w h : Int) (l : List Int) (a : Int) (ho : isOpen w h l a = true) : Ev (fun k => spec_l5From.f k w h l a) (dist w l a) := by
  have hl := isOpen_land ho
  obtain ⟨hw8, _, _, h64, _⟩ := isLand_true hl
  obtain ⟨h0, h1, h2⟩ := (isOpen_iff hl a).1 ho
  have key : ∀ (n : Nat) (i : Int), 0 ≤ i → i + n = l.length → Ev (fun k => spec_l5From.l0 k a (List.replicate i.toNat (-1)) i w h l) (dist w l a) := by
    intro n
    induction n with
    | zero =>
      intro i hi hs
      obtain ⟨i1, i2, i3⟩ := dist0_inv h0 h1
      refine Ev.step (f := fun k => spec_l5From.l1 k (dist0 l a) [a] 0 w h l) (fun k => ?_) (spec_l5From_l1 w h l hl (l.length + 1) (dist0 l a) [a] [a] 0 (by omega) rfl (by simp) (by simp; omega) i1 i2 (by simp; omega))
      simp only [spec_l5From.l0, List.length_replicate]
      rw [if_neg (by omega), if_pos h0, if_pos (by omega), show i.toNat = l.length from by omega]
      rfl
    | succ n ih =>
      intro i hi hs
      have hwr : wrap64 (i + 1) = i + 1 := wrapS (by omega) (by omega)
      have hh := ih (i + 1) (by omega) (by omega)
      rw [show (i + 1).toNat = i.toNat + 1 from by omega, List.replicate_succ'] at hh
      refine Ev.step (f := fun k => spec_l5From.l0 k a (List.replicate i.toNat (-1) ++ [-1]) (i + 1) w h l) (fun k => ?_) hh
      simp only [spec_l5From.l0, hwr, List.length_replicate]
      rw [if_pos (by omega), if_pos (by omega)]
  unfold spec_l5From.f
  exact key l.length 0 (by omega) (by omega)

theorem spec_IsLand_loop (w h : Int) (l : List Int) (hl : l.length ≤ 17592186044416) : ∀ (d : Nat) (i : Int), 0 ≤ i → i + d = l.length → Ev (fun k => spec_IsLand.l0 k i w h l) (okCells (l.drop i.toNat)) := by
  intro d
  induction d with
  | zero =>
    intro i h0 hi
    rw [List.drop_eq_nil_of_le (by omega)]
    refine Ev.step (f := fun _ => some true) (fun k => ?_) (Ev.now _)
    simp only [spec_IsLand.l0]
    rw [if_neg (by omega)]
  | succ d ih =>
    intro i h0 hi
    have hi2 := ih (i + 1) (by omega) (by omega)
    rw [drop_rd l i h0 (by omega)]
    by_cases c : 0 ≤ rd l i ∧ rd l i ≤ 2
    · rw [show okCells (rd l i :: l.drop (i + 1).toNat) = okCells (l.drop (i + 1).toNat) from by simp [okCells, c]]
      refine Ev.step (f := fun k => spec_IsLand.l0 k (i + 1) w h l) (fun k => ?_) hi2
      simp only [spec_IsLand.l0, spec_l1In_is, Option.bind_some, decide_eq_true c, if_true]
      rw [if_pos (by omega), if_pos h0, wrapS (by omega) (by omega)]
    · rw [show okCells (rd l i :: l.drop (i + 1).toNat) = false from by simp [okCells, c]]
      refine Ev.step (f := fun _ => some false) (fun k => ?_) (Ev.now _)
      simp only [spec_IsLand.l0, spec_l1In_is, Option.bind_some, decide_eq_false c, Bool.false_eq_true, if_false]
      rw [if_pos (by omega), if_pos h0]
theorem spec_IsLand_ev (w h : Int) (l : List Int) (hl : l.length ≤ 17592186044416) : Ev (fun k => spec_IsLand.f k w h l) (isLand w h l) := by
  have jt : Ev (fun k => spec_IsLand.j0 k true w h l) false := by
    refine Ev.step (f := fun _ => some false) (fun k => ?_) (Ev.now _)
    simp only [spec_IsLand.j0, if_true]
  unfold spec_IsLand.f
  simp only [spec_l1In_is, Option.bind_some]
  by_cases c1 : 1 ≤ w ∧ w ≤ 8
  · by_cases c2 : 1 ≤ h ∧ h ≤ 8
    · simp only [decide_eq_true c1, decide_eq_true c2, if_true, wrap_wh c1 c2]
      by_cases c3 : (l.length : Int) = w * h
      · rw [show isLand w h l = okCells l from by simp [isLand, c1, c2, c3]]
        simp only [show ((l.length : Int) != w * h) = false from by simp [c3]]
        refine Ev.step (f := fun k => spec_IsLand.l0 k 0 w h l) (fun k => ?_) (spec_IsLand_loop w h l hl l.length 0 (by omega) (by omega))
        simp only [spec_IsLand.j0, Bool.false_eq_true, if_false]
      · rw [show isLand w h l = false from by simp [isLand, c3]]
        simp only [show ((l.length : Int) != w * h) = true from by simp [c3]]
        exact jt
    · simp only [decide_eq_true c1, decide_eq_false c2, if_true, Bool.false_eq_true, if_false]
      rw [show isLand w h l = false from by simp only [isLand, c2, false_and, and_false, decide_false, Bool.false_and]]
      exact jt
  · simp only [decide_eq_false c1, Bool.false_eq_true, if_false]
    rw [show isLand w h l = false from by simp only [isLand, c1, false_and, decide_false, Bool.false_and]]
    exact jt

theorem spec_IsCell_ev (w h : Int) (l : List Int) (n : Int) (hl : l.length ≤ 17592186044416) : Ev (fun k => spec_IsCell.f k w h l n) (isCell w h l n) := by
  unfold spec_IsCell.f
  refine Ev.bind (spec_IsLand_ev w h l hl) ?_
  try dsimp only
  cases e : isLand w h l with
  | false =>
    rw [show isCell w h l n = false from by simp [isCell, e]]
    simp only [Bool.false_eq_true, if_false]
    exact Ev.now _
  | true =>
    rw [show isCell w h l n = decide (0 ≤ n ∧ n ≤ (l.length : Int) - 1) from by simp [isCell, e]]
    simp only [if_true, spec_l1In_is, Option.bind_some, wrapS (x := (l.length : Int) - 1) (by omega) (by omega)]
    exact Ev.now _

theorem spec_IsOpen_ev (w h : Int) (l : List Int) (n : Int) (hl : l.length ≤ 17592186044416) : Ev (fun k => spec_IsOpen.f k w h l n) (isOpen w h l n) := by
  unfold spec_IsOpen.f
  refine Ev.bind (spec_IsCell_ev w h l n hl) ?_
  try dsimp only
  cases e : isCell w h l n with
  | false =>
    rw [show isOpen w h l n = false from by simp [isOpen, e]]
    simp only [Bool.false_eq_true, if_false]
    exact Ev.now _
  | true =>
    obtain ⟨h0, h1⟩ := isCell_true e
    rw [show isOpen w h l n = (rd l n != 2) from by simp [isOpen, e]]
    simp only [if_true, if_pos h0, if_pos h1]
    exact Ev.now _

def days (w h : Int) (l : List Int) (a b : Int) : Int := if isOpen w h l a = true ∧ isOpen w h l b = true then rd (dist w l a) b else -1
theorem spec_Days_ev (w h : Int) (l : List Int) (a b : Int) (hl : l.length ≤ 1048576) : Ev (fun k => spec_Days.f k w h l a b) (days w h l a b) := by
  unfold spec_Days.f days
  refine Ev.bind (spec_IsOpen_ev w h l a (by omega)) ?_
  by_cases ha : isOpen w h l a = true
  · rw [ha]
    simp only [if_true]
    refine Ev.bind (spec_IsOpen_ev w h l b (by omega)) ?_
    by_cases hb : isOpen w h l b = true
    · rw [hb]
      simp only [if_true, and_self]
      refine Ev.bind (spec_l5From_ev w h l a ha) ?_
      have hld := isOpen_land ha
      obtain ⟨a0, a1, _⟩ := (isOpen_iff hld a).1 ha
      obtain ⟨b0, b1, _⟩ := (isOpen_iff hld b).1 hb
      rw [if_pos b0, if_pos (by rw [dist_length hld a0 a1]; exact b1)]
      exact Ev.now _
    · simp only [hb, Bool.false_eq_true, if_false, and_false]
      exact Ev.now _
  · simp only [ha, Bool.false_eq_true, if_false, false_and]
    exact Ev.now _
theorem impl_Days_ev (w h : Int) (l : List Int) (a b : Int) (hl : l.length ≤ 1048576) : Ev (fun k => impl_Days.f k w h l a b) (days w h l a b) := by
  unfold impl_Days.f days
  refine Ev.bind (impl_IsOpen_ev w h l a (by omega)) ?_
  by_cases ha : isOpen w h l a = true
  · rw [ha]
    simp only [if_true]
    refine Ev.bind (impl_IsOpen_ev w h l b (by omega)) ?_
    by_cases hb : isOpen w h l b = true
    · rw [hb]
      simp only [if_true, and_self]
      refine Ev.bind (impl_distances_ev w h l a ha) ?_
      have hld := isOpen_land ha
      obtain ⟨a0, a1, _⟩ := (isOpen_iff hld a).1 ha
      obtain ⟨b0, b1, _⟩ := (isOpen_iff hld b).1 hb
      rw [if_pos b0, if_pos (by rw [dist_length hld a0 a1]; exact b1)]
      exact Ev.now _
    · simp only [hb, Bool.false_eq_true, if_false, and_false]
      exact Ev.now _
  · simp only [ha, Bool.false_eq_true, if_false, false_and]
    exact Ev.now _

/-- The first that is nearer, or else what is given. -/
def nx (d : List Int) (c : Int) : List Int → Int → Int
  | [], e => e
  | y :: t, e => if rd d y < rd d c then y else nx d c t e
theorem nx_snoc (d : List Int) (c y : Int) (t : List Int) : ∀ e, nx d c (t ++ [y]) e = nx d c t (if rd d y < rd d c then y else e) := by
  induction t with
  | nil => intro e; rfl
  | cons x t ih =>
    intro e
    simp only [List.cons_append, nx]
    rw [ih]
theorem nx_mem (d : List Int) (c e : Int) (t : List Int) (h : ∃ y ∈ t, rd d y < rd d c) : nx d c t e ∈ t ∧ rd d (nx d c t e) < rd d c := by
  induction t with
  | nil =>
    obtain ⟨y, hy, _⟩ := h
    simp at hy
  | cons x t ih =>
    unfold nx
    by_cases c1 : rd d x < rd d c
    · rw [if_pos c1]
      exact ⟨List.mem_cons_self, c1⟩
    · rw [if_neg c1]
      obtain ⟨y, hy, hlt⟩ := h
      rcases List.mem_cons.1 hy with rfl | hy
      · exact absurd hlt c1
      · obtain ⟨a, b⟩ := ih ⟨y, hy, hlt⟩
        exact ⟨List.mem_cons_of_mem _ a, b⟩
def wayGo (w : Int) (l d : List Int) : Nat → Int → List Int → List Int
  | 0, _, o => o
  | n + 1, c, o => wayGo w l d n (nx d c (near w l c) c) (o ++ [nx d c (near w l c) c])
theorem wayGo_length (w : Int) (l d : List Int) : ∀ (n : Nat) (c : Int) (o : List Int), (wayGo w l d n c o).length = o.length + n := by
  intro n
  induction n with
  | zero => intro c o; rfl
  | succ n ih =>
    intro c o
    unfold wayGo
    rw [ih, List.length_append, List.length_singleton]
    omega
theorem nx_next {w h : Int} {l : List Int} {b : Int} (hb : isOpen w h l b = true) {c : Int} (hc : Vd l (dist w l b) c) (hne : c ≠ b) : nx (dist w l b) c (near w l c) c ∈ near w l c ∧ Vd l (dist w l b) (nx (dist w l b) c (near w l c) c) ∧ rd (dist w l b) c = rd (dist w l b) (nx (dist w l b) c (near w l c) c) + 1 := by
  obtain ⟨u, hu, hv, he⟩ := dist_down hb hc hne
  obtain ⟨m1, m2⟩ := nx_mem (dist w l b) c c (near w l c) ⟨u, hu, by omega⟩
  obtain ⟨n1, n2, n3⟩ := dist_near hb hc m1
  exact ⟨m1, n1, by omega⟩
def wayTo (w h : Int) (l : List Int) (a b : Int) : List Int := if days w h l a b < 0 then [] else wayGo w l (dist w l b) (rd (dist w l b) a).toNat a [a]
/-- A way is sought only between two open cells, each reached from the other. -/
theorem days_pos {w h : Int} {l : List Int} {a b : Int} (hd : ¬ days w h l a b < 0) : isOpen w h l a = true ∧ isOpen w h l b = true ∧ Vd l (dist w l b) a ∧ rd (dist w l b) a ≤ 64 := by
  unfold days at hd
  by_cases c : isOpen w h l a = true ∧ isOpen w h l b = true
  · rw [if_pos c] at hd
    have hl := isOpen_land c.1
    obtain ⟨_, _, _, h64, _⟩ := isLand_true hl
    obtain ⟨a0, a1, _⟩ := (isOpen_iff hl a).1 c.1
    obtain ⟨b0, b1, _⟩ := (isOpen_iff hl b).1 c.2
    have := (dist_inv hl b0 b1).2 a a0
    exact ⟨c.1, c.2, ⟨⟨a0, a1⟩, dist_swap c.1 c.2 (by omega)⟩, by omega⟩
  · rw [if_neg c] at hd
    omega
theorem wayTo_length (w h : Int) (l : List Int) (a b : Int) : (wayTo w h l a b).length ≤ 65 := by
  unfold wayTo
  split
  · simp
  · rename_i hd
    have := (days_pos hd).2.2.2
    rw [wayGo_length, List.length_singleton]
    omega

theorem impl_WayTo_l1 (w h : Int) (l : List Int) {b : Int} (hb : isOpen w h l b = true) {c : Int} (hc : Vd l (dist w l b) c) (o : List Int) (ho : o.length ≤ 1000) (ys : List Int) (hys : ∀ y ∈ ys, 0 ≤ y ∧ y < l.length) (hyl : ys.length ≤ 4) (r : List Int) : ∀ (n : Nat) (i : Int), 0 ≤ i → i + n = ys.length → Ev (fun k => impl_WayTo.l0 k b (dist w l b) (o ++ [nx (dist w l b) c (ys.drop i.toNat) c]) (nx (dist w l b) c (ys.drop i.toNat) c) w h l) r → Ev (fun k => impl_WayTo.l1 k b (dist w l b) o c ys (ys.length : Int) i w h l) r := by
  have hl := isOpen_land hb
  obtain ⟨b0, b1, _⟩ := (isOpen_iff hl b).1 hb
  have hdl := dist_length hl b0 b1
  have hcr := hc.1
  intro n
  induction n with
  | zero =>
    intro i h0 hi hr
    rw [List.drop_eq_nil_of_le (by omega)] at hr
    simp only [nx] at hr
    refine Ev.step (fun k => ?_) hr
    simp only [impl_WayTo.l1]
    rw [if_neg (by omega), if_pos (by omega)]
  | succ n ih =>
    intro i h0 hi hr
    rw [drop_rd ys i h0 (by omega)] at hr
    have hx := hys (rd ys i) (rd_in ys i h0 (by omega))
    have hw : wrap64 (i + 1) = i + 1 := wrapS (by omega) (by omega)
    by_cases c1 : rd (dist w l b) (rd ys i) < rd (dist w l b) c
    · simp only [nx, if_pos c1] at hr
      refine Ev.step (fun k => ?_) hr
      simp only [impl_WayTo.l1]
      rw [if_pos (by omega), if_pos h0, if_pos (by omega), if_pos hx.1, if_pos (by omega), if_pos (by omega), if_pos (by omega), if_pos c1, if_pos (by omega)]
    · simp only [nx, if_neg c1] at hr
      refine Ev.step (fun k => ?_) (ih (i + 1) (by omega) (by omega) hr)
      simp only [impl_WayTo.l1, hw]
      rw [if_pos (by omega), if_pos h0, if_pos (by omega), if_pos hx.1, if_pos (by omega), if_pos (by omega), if_pos (by omega), if_neg c1]
theorem impl_WayTo_l0 (w h : Int) (l : List Int) {b : Int} (hb : isOpen w h l b = true) : ∀ (n : Nat) (c : Int) (o : List Int), Vd l (dist w l b) c → rd (dist w l b) c = n → o.length + n ≤ 1000 → Ev (fun k => impl_WayTo.l0 k b (dist w l b) o c w h l) (wayGo w l (dist w l b) n c o) := by
  have hl := isOpen_land hb
  obtain ⟨hw8, _, _, h64, _⟩ := isLand_true hl
  intro n
  induction n with
  | zero =>
    intro c o hc e ho
    have hcb : c = b := by
      by_cases hne : c = b
      · exact hne
      · obtain ⟨u, _, hu, he⟩ := dist_down hb hc hne
        have := hu.2
        omega
    refine Ev.step (f := fun _ => some o) (fun k => ?_) (Ev.now _)
    simp only [impl_WayTo.l0]
    rw [if_pos hcb]
  | succ n ih =>
    intro c o hc e ho
    have hne : c ≠ b := by
      intro hcb
      subst hcb
      have := dist_self hb
      omega
    obtain ⟨m1, m2, m3⟩ := nx_next hb hc hne
    have hn := impl_Near_ev w h l c (by omega) (by omega)
    rw [if_pos (isCell_mk hl hc.1.1 hc.1.2)] at hn
    refine Ev.step (f := fun k => (impl_Near.f k w h l c).bind fun t => impl_WayTo.l1 k b (dist w l b) o c t (t.length : Int) 0 w h l) (fun k => ?_) (Ev.bind hn ?_)
    · simp only [impl_WayTo.l0]
      rw [if_neg hne]
    · refine impl_WayTo_l1 w h l hb hc o (by omega) (near w l c) (near_in hl hc.1.1 hc.1.2) (near_length w l c) _ (near w l c).length 0 (by omega) (by omega) ?_
      simp only [show (0 : Int).toNat = 0 from rfl, List.drop_zero]
      exact ih _ _ m2 (by omega) (by rw [List.length_append, List.length_singleton]; omega)
theorem impl_WayTo_ev (w h : Int) (l : List Int) (a b : Int) (hl : l.length ≤ 1048576) : Ev (fun k => impl_WayTo.f k w h l a b) (wayTo w h l a b) := by
  unfold impl_WayTo.f wayTo
  refine Ev.bind (impl_Days_ev w h l a b hl) ?_
  by_cases hd : days w h l a b < 0
  · simp only [if_pos hd]
    exact Ev.now _
  · simp only [if_neg hd]
    obtain ⟨ha, hb, hv, h64⟩ := days_pos hd
    have h0 := hv.2
    refine Ev.bind (impl_distances_ev w h l b hb) ?_
    exact impl_WayTo_l0 w h l hb _ a [a] hv (by omega) (by rw [List.length_singleton]; omega)

theorem spec_WayTo_l1 (w h : Int) (l : List Int) {b : Int} (hb : isOpen w h l b = true) {c : Int} (hc : Vd l (dist w l b) c) (o : List Int) (ho : o.length ≤ 1000) (ho1 : 0 < o.length) (hoc : rd o ((o.length : Int) - 1) = c) (r : List Int) : ∀ (n : Nat) (i e : Int), i + 1 = n → i < (near w l c).length → Ev (fun k => spec_WayTo.l0 k (nx (dist w l b) c ((near w l c).take n) e) b (o ++ [nx (dist w l b) c ((near w l c).take n) e]) (dist w l b) w h l) r → Ev (fun k => spec_WayTo.l1 k e b o (dist w l b) (near w l c) i w h l) r := by
  have hl := isOpen_land hb
  obtain ⟨b0, b1, _⟩ := (isOpen_iff hl b).1 hb
  obtain ⟨_, _, _, h64, _⟩ := isLand_true hl
  have hdl := dist_length hl b0 b1
  have hcr := hc.1
  have hc0 := hc.2
  have hc1 := (dist_inv hl b0 b1).2 c hcr.1
  have hyl := near_length w l c
  have hw1 : wrap64 ((o.length : Int) - 1) = (o.length : Int) - 1 := wrapS (by omega) (by omega)
  have hw2 : wrap64 (rd (dist w l b) c - 1) = rd (dist w l b) c - 1 := wrapS (by omega) (by omega)
  intro n
  induction n with
  | zero =>
    intro i e hi hlt hr
    simp only [List.take_zero, nx] at hr
    refine Ev.step (fun k => ?_) hr
    simp only [spec_WayTo.l1]
    rw [if_neg (by omega), if_pos (by omega)]
  | succ n ih =>
    intro i e hi hlt hr
    have hin := rd_in (near w l c) i (by omega) hlt
    obtain ⟨y1, y2, y3⟩ := dist_near hb hc hin
    have hx := y1.1
    have hw : wrap64 (i - 1) = i - 1 := wrapS (by omega) (by omega)
    have ht : (near w l c).take (n + 1) = (near w l c).take n ++ [rd (near w l c) i] := by
      have hg : rd (near w l c) i = (near w l c)[n]'(by omega) := by
        show (near w l c).getD i.toNat 0 = _
        rw [show i.toNat = n from by omega, List.getD_eq_getElem?_getD, List.getElem?_eq_getElem (by omega)]
        rfl
      rw [List.take_succ_eq_append_getElem (by omega), hg]
    rw [ht, nx_snoc] at hr
    by_cases c1 : rd (dist w l b) (rd (near w l c) i) < rd (dist w l b) c
    · rw [if_pos c1] at hr
      refine Ev.step (fun k => ?_) (ih (i - 1) (rd (near w l c) i) (by omega) (by omega) hr)
      simp only [spec_WayTo.l1, hw, hw1, hoc, hw2]
      rw [if_pos (by omega), if_pos (by omega), if_pos (by omega), if_pos hx.1, if_pos (by omega), if_pos (by omega), if_pos (by omega), if_pos (by omega), if_pos (by omega), if_pos (by omega)]
    · rw [if_neg c1] at hr
      refine Ev.step (fun k => ?_) (ih (i - 1) e (by omega) (by omega) hr)
      simp only [spec_WayTo.l1, hw, hw1, hoc, hw2]
      rw [if_pos (by omega), if_pos (by omega), if_pos (by omega), if_pos hx.1, if_pos (by omega), if_pos (by omega), if_pos (by omega), if_pos (by omega), if_pos (by omega), if_neg (by omega)]
theorem rd_last (o : List Int) (x : Int) : rd (o ++ [x]) (((o ++ [x]).length : Int) - 1) = x := by
  show (o ++ [x]).getD (((o ++ [x]).length : Int) - 1).toNat 0 = x
  rw [List.length_append, List.length_singleton, show (((o.length + 1 : Nat) : Int) - 1).toNat = o.length from by omega, List.getD_eq_getElem?_getD, List.getElem?_append_right (by omega), Nat.sub_self]
  rfl
theorem spec_WayTo_l0 (w h : Int) (l : List Int) {b : Int} (hb : isOpen w h l b = true) : ∀ (n : Nat) (c : Int) (o : List Int), Vd l (dist w l b) c → rd (dist w l b) c = n → o.length + n ≤ 1000 → 0 < o.length → rd o ((o.length : Int) - 1) = c → Ev (fun k => spec_WayTo.l0 k c b o (dist w l b) w h l) (wayGo w l (dist w l b) n c o) := by
  have hl := isOpen_land hb
  obtain ⟨hw8, _, _, h64, _⟩ := isLand_true hl
  intro n
  induction n with
  | zero =>
    intro c o hc e ho ho1 hoc
    have hcb : c = b := by
      by_cases hne : c = b
      · exact hne
      · obtain ⟨u, _, hu, he⟩ := dist_down hb hc hne
        have := hu.2
        omega
    refine Ev.step (f := fun _ => some o) (fun k => ?_) (Ev.now _)
    simp only [spec_WayTo.l0]
    rw [if_pos hcb]
  | succ n ih =>
    intro c o hc e ho ho1 hoc
    have hne : c ≠ b := by
      intro hcb
      subst hcb
      have := dist_self hb
      omega
    obtain ⟨m1, m2, m3⟩ := nx_next hb hc hne
    have h4 := near_length w l c
    refine Ev.step (f := fun k => (spec_l4Near.f k w h l c).bind fun t => spec_WayTo.l1 k c b o (dist w l b) t (wrap64 ((t.length : Int) - 1)) w h l) (fun k => ?_) (Ev.bind (spec_l4Near_ev w h l c (isCell_mk hl hc.1.1 hc.1.2)) ?_)
    · simp only [spec_WayTo.l0]
      rw [if_neg hne]
    · rw [wrapS (x := ((near w l c).length : Int) - 1) (by omega) (by omega)]
      refine spec_WayTo_l1 w h l hb hc o (by omega) ho1 hoc _ (near w l c).length (((near w l c).length : Int) - 1) c (by omega) (by omega) ?_
      rw [List.take_length]
      exact ih _ _ m2 (by omega) (by rw [List.length_append, List.length_singleton]; omega) (by simp) (rd_last _ _)
theorem spec_WayTo_ev (w h : Int) (l : List Int) (a b : Int) (hl : l.length ≤ 1048576) : Ev (fun k => spec_WayTo.f k w h l a b) (wayTo w h l a b) := by
  unfold spec_WayTo.f wayTo
  simp only [Option.bind_some]
  refine Ev.bind (spec_Days_ev w h l a b hl) ?_
  by_cases hd : days w h l a b < 0
  · simp only [if_pos hd]
    exact Ev.now _
  · simp only [if_neg hd]
    obtain ⟨ha, hb, hv, h64⟩ := days_pos hd
    have h0 := hv.2
    refine Ev.bind (spec_l5From_ev w h l b hb) ?_
    simp only [List.length_nil, if_pos (show (0 : Nat) < 17592186044416 from by omega), List.nil_append]
    exact spec_WayTo_l0 w h l hb _ a [a] hv (by omega) (by rw [List.length_singleton]; omega) (by simp) rfl

theorem laws_toIntS_ev (l : List Int) (hl : l.length ≤ 17592186044416) : Ev (fun k => laws_toIntS.f k l) l := by
  have key : ∀ (d : Nat) (o : List Int) (i : Int), 0 ≤ i → o.length = l.length → i + d = l.length → o.take i.toNat = l.take i.toNat → Ev (fun k => laws_toIntS.l0 k l o i) l := by
    intro d
    induction d with
    | zero =>
      intro o i h0 ho hi ht
      refine Ev.step (f := fun _ => some l) (fun k => ?_) (Ev.now _)
      simp only [laws_toIntS.l0]
      rw [if_neg (by omega), take_all i.toNat ho (by omega) ht]
    | succ d ih =>
      intro o i h0 ho hi ht
      refine Ev.step (f := fun k => laws_toIntS.l0 k l (o.set i.toNat (rd l i)) (i + 1)) (fun k => ?_) (ih _ _ (by omega) (by simpa using ho) (by omega) ?_)
      · simp only [laws_toIntS.l0]
        rw [if_pos (by omega), if_pos h0, if_pos (by omega), wrapS (by omega) (by omega)]
      · rw [show (i + 1).toNat = i.toNat + 1 from by omega]
        exact set_take_succ _ o l i.toNat ho (by omega) ht
  refine Ev.congr (f := fun k => laws_toIntS.l0 k l (List.replicate l.length 0) 0) (fun k => ?_) (key l.length _ 0 (by omega) (by simp) (by omega) (by simp))
  unfold laws_toIntS.f
  rw [if_pos (by omega), if_pos (by omega)]
  rfl

theorem laws_eqIntS_ev (l : List Int) (hl : l.length ≤ 281474976710656) : Ev (fun k => laws_eqIntS.f k l l) true := by
  have key : ∀ (d : Nat) (i : Int), 0 ≤ i → i + d = l.length → Ev (fun k => laws_eqIntS.l0 k l l i) true := by
    intro d
    induction d with
    | zero =>
      intro i h0 hi
      refine Ev.step (f := fun _ => some true) (fun k => ?_) (Ev.now _)
      simp only [laws_eqIntS.l0]
      rw [if_neg (by omega)]
    | succ d ih =>
      intro i h0 hi
      refine Ev.step (f := fun k => laws_eqIntS.l0 k l l (i + 1)) (fun k => ?_) (ih _ (by omega) (by omega))
      simp only [laws_eqIntS.l0]
      rw [if_pos (by omega), if_pos h0, if_pos (by omega), wrapS (by omega) (by omega)]
      simp
  refine Ev.congr (f := fun k => laws_eqIntS.l0 k l l 0) (fun k => ?_) (key l.length 0 (by omega) (by omega))
  unfold laws_eqIntS.f
  rw [if_pos rfl]



theorem laws_szLand_is (w h : Int) (l : List Int) (hl : l.length ≤ 9223372036854775807) : laws_szLand.f w h l 1048576 = some (if (l.length : Int) ≤ 1048576 then 1048576 - (l.length : Int) else -1) := by
  unfold laws_szLand.f laws_szIntS.f
  rw [wrapS (by omega) (by omega)]
  by_cases c : (l.length : Int) ≤ 1048576
  · rw [if_neg (by omega), if_pos c]
    simp only [Option.bind_some]
    rw [if_neg (by omega)]
  · rw [if_pos (by omega), if_neg c]
    simp
theorem laws_toLand_ev (w h : Int) (l : List Int) (hl : l.length ≤ 1048576) : Ev (fun k => laws_toLand.f k w h l) (w, h, l) := by
  unfold laws_toLand.f
  exact Ev.bind (laws_toIntS_ev l (by omega)) (Ev.now _)
theorem laws_eqLand_ev (w h : Int) (l : List Int) (hl : l.length ≤ 1048576) : Ev (fun k => laws_eqLand.f k w h l w h l) true := by
  unfold laws_eqLand.f
  simp only [if_true, bne_self_eq_false, Bool.false_eq_true, if_false, eq_self]
  refine Ev.bind (laws_eqIntS_ev l (by omega)) ?_
  simp only [if_true]
  exact Ev.now _

/-- The lists' comparison from a place on. -/
def eqFrom (a b : List Int) (n : Nat) : Bool := (List.range a.length).all fun j => decide (j < n) || (a.getD j 0 == b.getD j 0)
theorem eqFrom_iff (a b : List Int) (n : Nat) : eqFrom a b n = true ↔ ∀ j, n ≤ j → j < a.length → a.getD j 0 = b.getD j 0 := by
  simp only [eqFrom, List.all_eq_true, List.mem_range, Bool.or_eq_true, decide_eq_true_eq, beq_iff_eq]
  constructor
  · intro h j h1 h2
    rcases h j h2 with h3 | h3
    · omega
    · exact h3
  · intro h j h2
    by_cases h1 : j < n
    · exact Or.inl h1
    · exact Or.inr (h j (by omega) h2)
theorem eqFrom_end (a b : List Int) (n : Nat) (h : a.length ≤ n) : eqFrom a b n = true := by
  rw [eqFrom_iff]
  intro j h1 h2
  omega
theorem eqFrom_yes (a b : List Int) (n : Nat) (h : a.getD n 0 = b.getD n 0) : eqFrom a b n = eqFrom a b (n + 1) := by
  rw [Bool.eq_iff_iff, eqFrom_iff, eqFrom_iff]
  constructor
  · intro hj j h1 h2; exact hj j (by omega) h2
  · intro hj j h1 h2
    by_cases e : j = n
    · subst e; exact h
    · exact hj j (by omega) h2
theorem eqFrom_no (a b : List Int) (n : Nat) (hn : n < a.length) (h : ¬ a.getD n 0 = b.getD n 0) : eqFrom a b n = false := by
  rw [Bool.eq_false_iff, ne_eq, eqFrom_iff]
  intro hj
  exact h (hj n (Nat.le_refl _) hn)

def markedInt (n : Nat) (a : Int) : List Int := (List.range n).map fun (j : Nat) => a + j
theorem markedInt_length (n : Nat) (a : Int) : (markedInt n a).length = n := by simp [markedInt]
theorem markedInt_at (n : Nat) (a : Int) (j : Nat) (h : j < n) : (markedInt n a).getD j 0 = a + j := by
  simp [markedInt, List.getD_eq_getElem?_getD, h]
theorem laws_markIntS_ev (l : List Int) (a : Int) (ha : 0 ≤ a) (hl : a + l.length ≤ 4611686018427387904) : Ev (fun k => laws_markIntS.f k l a) (a + l.length, markedInt l.length a) := by
  have key : ∀ (d : Nat) (o : List Int) (x i : Int), 0 ≤ i → x = a + i → o.length = l.length → i + d = l.length → o.take i.toNat = (markedInt l.length a).take i.toNat → Ev (fun k => laws_markIntS.l0 k o x i) (a + l.length, markedInt l.length a) := by
    intro d
    induction d with
    | zero =>
      intro o x i h0 hx ho hi ht
      refine Ev.step (f := fun _ => some (a + l.length, markedInt l.length a)) (fun k => ?_) (Ev.now _)
      simp only [laws_markIntS.l0]
      have hm := markedInt_length l.length a
      rw [if_neg (by omega), take_all i.toNat (by omega) (by omega) ht, hx, show i = (l.length : Int) from by omega]
    | succ d ih =>
      intro o x i h0 hx ho hi ht
      have hm := markedInt_length l.length a
      have hat := markedInt_at l.length a i.toNat (by omega)
      rw [show (i.toNat : Int) = i from by omega, ← hx] at hat
      refine Ev.step (f := fun k => laws_markIntS.l0 k (o.set i.toNat ((markedInt l.length a).getD i.toNat 0)) (x + 1) (i + 1)) (fun k => ?_) (ih _ _ _ (by omega) (by omega) (by simpa using ho) (by omega) ?_)
      · simp only [laws_markIntS.l0]
        rw [if_pos (by omega), if_pos h0, wrapS (by omega) (by omega), wrapS (by omega) (by omega), hat]
      · rw [show (i + 1).toNat = i.toNat + 1 from by omega]
        exact set_take_succ 0 o _ i.toNat (by omega) (by omega) ht
  exact key l.length l a 0 (by omega) (by omega) rfl (by omega) (by simp)



theorem laws_heldIntS_ev (n : Nat) (a : Int) (ha : 0 ≤ a) (hl : a + n ≤ 4611686018427387904) : Ev (fun k => laws_heldIntS.f k (markedInt n a) a) (a + n) := by
  have hm := markedInt_length n a
  have key : ∀ (d : Nat) (x i : Int), 0 ≤ i → x = a + i → i + d = n → Ev (fun k => laws_heldIntS.l0 k (markedInt n a) x i) (a + n) := by
    intro d
    induction d with
    | zero =>
      intro x i h0 hx hi
      refine Ev.step (f := fun _ => some (a + n)) (fun k => ?_) (Ev.now _)
      simp only [laws_heldIntS.l0]
      rw [if_neg (by omega), hx, show i = (n : Int) from by omega]
    | succ d ih =>
      intro x i h0 hx hi
      refine Ev.step (f := fun k => laws_heldIntS.l0 k (markedInt n a) (x + 1) (i + 1)) (fun k => ?_) (ih _ _ (by omega) (by omega) (by omega))
      have hat : rd (markedInt n a) i = (markedInt n a).getD i.toNat 0 := rfl
      rw [markedInt_at n a i.toNat (by omega), show (i.toNat : Int) = i from by omega, ← hx] at hat
      simp only [laws_heldIntS.l0]
      rw [if_pos (by omega), if_pos h0, wrapS (by omega) (by omega), wrapS (by omega) (by omega), hat]
      simp
  exact key n a 0 (by omega) (by omega) (by omega)



theorem FnExactWayTo (w h : Int) (l : List Int) (n : Int) (m : Int) (ww : (Lit.int .i64 w).wf = true) (wh : (Lit.int .i64 h).wf = true) (_ : ∀ x ∈ l, (Lit.int .i64 x).wf = true) (hl : l.length ≤ 9223372036854775807) (wn : (Lit.int .i64 n).wf = true) (wm : (Lit.int .i64 m).wf = true) : ∃ k, laws_FnExactWayTo.f k w h l n m = some true := by
  apply Ev.rounds
  unfold laws_FnExactWayTo.f
  rw [laws_szLand_is w h l hl]
  simp only [Option.bind_some]
  have h4 := wayTo_length w h l n m
  generalize hr : wayTo w h l n m = r at h4
  by_cases h1 : (l.length : Int) ≤ 1048576
  · simp only [if_pos h1, if_neg (show ¬ 1048576 - (l.length : Int) < 0 from by omega)]
    have es := spec_WayTo_ev w h l n m (by omega)
    have ei := impl_WayTo_ev w h l n m (by omega)
    rw [hr] at es ei
    refine Ev.bind (laws_toLand_ev w h l (by omega)) ?_
    refine Ev.bind (es) ?_
    refine Ev.bind (laws_toLand_ev w h l (by omega)) ?_
    refine Ev.bind (ei) ?_
    refine Ev.bind (laws_eqIntS_ev r (by omega)) ?_
    simp only [if_true, if_false, Bool.false_eq_true, Bool.not_true, Bool.not_false, bne_self_eq_false, eq_self, ite_true, ite_false, reduceIte]
    refine Ev.bind (laws_toLand_ev w h l (by omega)) ?_
    refine Ev.bind (laws_eqLand_ev w h l (by omega)) ?_
    simp only [if_true, if_false, Bool.false_eq_true, Bool.not_true, Bool.not_false, bne_self_eq_false, eq_self, ite_true, ite_false, reduceIte]
    unfold laws_markLand.f
    refine Ev.bind ((Ev.bind (laws_markIntS_ev l 1 (by omega) (by omega)) (Ev.now (1 + (l.length : Int), markedInt l.length 1)))) ?_
    simp only [one_add_neg, if_false]
    refine Ev.bind (laws_eqIntS_ev r (by omega)) ?_
    refine Ev.step (fun k => by rw [laws_FnExactWayTo.j0]) ?_
    simp only [Bool.not_true, Bool.false_eq_true, if_false]
    refine Ev.bind (laws_markIntS_ev r 1 (by omega) (by omega)) ?_
    refine Ev.bind (laws_heldIntS_ev r.length 1 (by omega) (by omega)) ?_
    simp only [one_add_neg, if_false, if_true]
    refine Ev.bind (laws_toLand_ev w h l (by omega)) ?_
    refine Ev.bind (ei) ?_
    refine Ev.bind (laws_eqIntS_ev r (by omega)) ?_
    simp only [if_true, if_false, Bool.false_eq_true, Bool.not_true, Bool.not_false, bne_self_eq_false, eq_self, ite_true, ite_false, reduceIte]
    refine Ev.bind (laws_heldIntS_ev r.length 1 (by omega) (by omega)) ?_
    simp only [one_add_neg, if_false, if_true]
    exact Ev.now _
  · simp only [if_neg h1]
    exact Ev.now _

end Go.Proofs.Ytcbogdpgobbhmaa.Pure
