/- FnWays answers true, for each list of bytes. -/
import Derived.Test.YtncenfihphdipaaQFnWaysx11
import Derived.Test.YtncenfihphdipaaWSized
set_option linter.unusedVariables false
set_option linter.unusedSimpArgs false
namespace Go.Proofs.Ytncenfihphdipaa.PrintWords
open Go.ChangeShapes Go.WideShapes
/-- The printed row names the word so; it lies one namespace beside. -/
theorem sized_ints {H : Type} {enc : TypeId × Value → H} {P : Program} {W : World} {base : Nat} {spare : Nat → Bool} {held : Bool} {t e : TypeId} {k : IntKind} {a : Option Addr} {len cap : Nat} {d : DataW H} {ps : List MemPlace} {ts : List TypeId} {ds : List (DataW H)} {j : Nat}
    (hsz : (DataW.weightsEach P ts ds).all (· ≤ reachBytes) = true) (ht : ts[j]? = some t) (hd : ds[j]? = some d) (hu : P.underlying t = some (.slice e)) (he : P.underlying e = some (.int k)) (hc : P.cellsOf e = 1) {B : Nat} (hB : P.bytesOf e = B)
    (h : DataW.Trod enc P W base spare held t (.slice a len cap) d ps) : len * B ≤ 140737488351232 :=
  Go.Proofs.YtncenfihphdipaaW.PrintWords.sized_ints hsz ht hd hu he hc hB h
end Go.Proofs.Ytncenfihphdipaa.PrintWords
namespace Go.Proofs.Ytncenfihphdipaa.Pure
open Go.RowKit Go.Proofs.Ytncenfihphdipaa.QFnWays Go.Proofs.YtncenfihphdipaaW.PrintWords Go.Proofs.YtncenfihphdipaaW.PrintLast Go.Proofs.YtncenfihphdipaaW.PrintMore

theorem wrapS {x : Int} (h1 : -9223372036854775808 ≤ x) (h2 : x ≤ 9223372036854775807) : wrap64 x = x := by
  unfold wrap64
  omega
theorem i64wf {x : Int} (h : (Lit.int .i64 x).wf = true) : -9223372036854775808 ≤ x ∧ x ≤ 9223372036854775807 := by
  have h1 : (decide (IntKind.i64.min ≤ x) && decide (x ≤ IntKind.i64.max)) = true := h
  rw [Bool.and_eq_true, decide_eq_true_eq, decide_eq_true_eq] at h1
  exact h1
theorem u8wf {x : Int} (h : (Lit.int .u8 x).wf = true) : 0 ≤ x ∧ x ≤ 255 := by
  have h1 : (decide (IntKind.u8.min ≤ x) && decide (x ≤ IntKind.u8.max)) = true := h
  rw [Bool.and_eq_true, decide_eq_true_eq, decide_eq_true_eq] at h1
  exact h1
/-- What is told of some number of rounds is told of any three together. -/
theorem evNow {α : Type} {g : Option α} {r : α} (h : g = some r) : Ev (fun _ => g) r := ⟨0, fun _ _ => h⟩
theorem one_add_neg (n : Nat) : ((1 : Int) + (n : Int) < 0) = False := by
  simp only [eq_iff_iff, iff_false]
  omega

theorem set_take_succ {α : Type} (d : α) (o l : List α) (n : Nat) (ho : o.length = l.length) (hn : n < l.length) (ht : o.take n = l.take n) : (o.set n (l.getD n d)).take (n + 1) = l.take (n + 1) := by
  apply List.ext_getElem?
  intro j
  have hj := congrArg (fun t => t[j]?) ht
  simp only [List.getElem?_take] at hj ⊢
  by_cases h1 : j < n
  · rw [if_pos h1, if_pos h1] at hj
    rw [if_pos (by omega), if_pos (by omega), List.getElem?_set_ne (by omega)]
    exact hj
  · by_cases h2 : j = n
    · subst h2
      rw [if_pos (by omega), if_pos (by omega), List.getElem?_set_self (by omega), List.getElem?_eq_getElem hn, List.getD_eq_getElem?_getD, List.getElem?_eq_getElem hn]
      rfl
    · rw [if_neg (by omega), if_neg (by omega)]
theorem take_all {α : Type} {o l : List α} (n : Nat) (ho : o.length = l.length) (hn : l.length ≤ n) (ht : o.take n = l.take n) : o = l := by
  rw [List.take_of_length_le (by omega), List.take_of_length_le (by omega)] at ht
  exact ht

def hgo (d : Int) (l : List Int) : Int := l.foldl (fun d v => (d * 1000003 + v % 2147483647 + 13) % 2147483647) d
def hashOf (l : List Int) : Int := hgo 11 l
def khash (a : Int) (l : List Int) : Int := hashOf ([a] ++ l ++ [a])
theorem hgo_range (l : List Int) : ∀ d, 0 ≤ d → d < 2147483647 → 0 ≤ hgo d l ∧ hgo d l < 2147483647 := by
  induction l with
  | nil => intro d h1 h2; exact ⟨h1, h2⟩
  | cons v l ih => intro d h1 h2; exact ih ((d * 1000003 + v % 2147483647 + 13) % 2147483647) (by omega) (by omega)
theorem khash_range (a : Int) (l : List Int) : 0 ≤ khash a l ∧ khash a l < 2147483647 := hgo_range _ 11 (by omega) (by omega)
theorem drop_rd (l : List Int) (i : Int) (h0 : 0 ≤ i) (h1 : i < l.length) : l.drop i.toNat = rd l i :: l.drop (i + 1).toNat := by
  rw [show (i + 1).toNat = i.toNat + 1 from by omega, List.drop_eq_getElem_cons (by omega)]
  congr 1
  simp [rd, List.getD_eq_getElem?_getD, List.getElem?_eq_getElem (show i.toNat < l.length by omega)]
theorem hash_round (d v : Int) (h1 : 0 ≤ d) (h2 : d < 2147483647) : Int.tmod (wrap64 ((wrap64 ((wrap64 (d * 1000003)) + v % 2147483647)) + 13)) 2147483647 = (d * 1000003 + v % 2147483647 + 13) % 2147483647 := by
  rw [wrapS (x := d * 1000003) (by omega) (by omega), wrapS (x := d * 1000003 + v % 2147483647) (by omega) (by omega), wrapS (by omega) (by omega), Int.tmod_eq_emod_of_nonneg (by omega)]

theorem impl_InRange_is (a b c : Int) : impl_InRange.f a b c = some (decide (b ≤ a ∧ a ≤ c)) := by
  unfold impl_InRange.f
  by_cases h : b ≤ a <;> simp [h]

def okCells (l : List Int) : Bool := l.all fun x => decide (0 ≤ x ∧ x ≤ 2)
def isLand (w h : Int) (l : List Int) : Bool := decide ((1 ≤ w ∧ w ≤ 8) ∧ (1 ≤ h ∧ h ≤ 8) ∧ (l.length : Int) = w * h) && okCells l
theorem isLand_true {w h : Int} {l : List Int} (e : isLand w h l = true) : (1 ≤ w ∧ w ≤ 8) ∧ (1 ≤ h ∧ h ≤ 8) ∧ (l.length : Int) = w * h ∧ l.length ≤ 64 ∧ okCells l = true := by
  simp only [isLand, Bool.and_eq_true, decide_eq_true_eq] at e
  obtain ⟨⟨h1, h2, h3⟩, h4⟩ := e
  refine ⟨h1, h2, h3, ?_, h4⟩
  have : w * h ≤ 8 * 8 := Int.mul_le_mul h1.2 h2.2 (by omega) (by omega)
  omega
theorem wrap_wh {w h : Int} (h1 : 1 ≤ w ∧ w ≤ 8) (h2 : 1 ≤ h ∧ h ≤ 8) : wrap64 (w * h) = w * h := by
  have u : w * h ≤ 8 * 8 := Int.mul_le_mul h1.2 h2.2 (by omega) (by omega)
  have v : 0 ≤ w * h := Int.mul_nonneg (by omega) (by omega)
  exact wrapS (by omega) (by omega)

def isCell (w h : Int) (l : List Int) (n : Int) : Bool := isLand w h l && decide (0 ≤ n ∧ n ≤ (l.length : Int) - 1)
theorem isCell_true {w h : Int} {l : List Int} {n : Int} (e : isCell w h l n = true) : 0 ≤ n ∧ n < l.length := by
  simp only [isCell, Bool.and_eq_true, decide_eq_true_eq] at e
  omega
theorem isCell_land {w h : Int} {l : List Int} {n : Int} (e : isCell w h l n = true) : isLand w h l = true := by
  simp only [isCell, Bool.and_eq_true] at e
  exact e.1

def isOpen (w h : Int) (l : List Int) (n : Int) : Bool := isCell w h l n && (rd l n != 2)

def absI (x : Int) : Int := if x < 0 then -x else x
def apart (w h : Int) (l : List Int) (a b : Int) : Int := if isCell w h l a = true ∧ isCell w h l b = true then absI (a % w - b % w) + absI (a / w - b / w) else -1
theorem cell_bounds {w h : Int} {l : List Int} {a : Int} (e : isCell w h l a = true) : 1 ≤ w ∧ w ≤ 8 ∧ 0 ≤ a ∧ a < 64 ∧ 0 ≤ a % w ∧ a % w < 8 ∧ 0 ≤ a / w ∧ a / w < 64 := by
  obtain ⟨h1, _, _, h4, _⟩ := isLand_true (isCell_land e)
  obtain ⟨h5, h6⟩ := isCell_true e
  have m1 := Int.emod_nonneg a (show w ≠ 0 by omega)
  have m2 := Int.emod_lt_of_pos a (show 0 < w by omega)
  have d1 := Int.ediv_nonneg h5 (show 0 ≤ w by omega)
  have d2 : a / w ≤ a := Int.ediv_le_self w h5
  exact ⟨h1.1, h1.2, h5, by omega, m1, by omega, d1, by omega⟩

/-- The open cells beside a cell. -/
def near (w : Int) (l : List Int) (n : Int) : List Int :=
  (if w ≤ n ∧ rd l (n - w) ≠ 2 then [n - w] else []) ++ ((if 0 < n % w ∧ rd l (n - 1) ≠ 2 then [n - 1] else []) ++ ((if n % w < w - 1 ∧ rd l (n + 1) ≠ 2 then [n + 1] else []) ++ (if n + w < l.length ∧ rd l (n + w) ≠ 2 then [n + w] else [])))
theorem near_length (w : Int) (l : List Int) (n : Int) : (near w l n).length ≤ 4 := by
  unfold near
  split <;> split <;> split <;> split <;> simp
theorem w8 {w : Int} (h : 1 ≤ w ∧ w ≤ 8) : w = 1 ∨ w = 2 ∨ w = 3 ∨ w = 4 ∨ w = 5 ∨ w = 6 ∨ w = 7 ∨ w = 8 := by omega
def step (w n m : Int) : Int := absI (n % w - m % w) + absI (n / w - m / w)
theorem step_up (w n : Int) (h : 1 ≤ w ∧ w ≤ 8) : step w n (n - w) = 1 := by
  unfold step absI
  rcases w8 h with rfl | rfl | rfl | rfl | rfl | rfl | rfl | rfl <;> split <;> split <;> omega
theorem step_down (w n : Int) (h : 1 ≤ w ∧ w ≤ 8) : step w n (n + w) = 1 := by
  unfold step absI
  rcases w8 h with rfl | rfl | rfl | rfl | rfl | rfl | rfl | rfl <;> split <;> split <;> omega
theorem step_left (w n : Int) (h : 1 ≤ w ∧ w ≤ 8) : step w n (n - 1) = 1 ↔ (0 < n % w ∨ w = 1) := by
  unfold step absI
  rcases w8 h with rfl | rfl | rfl | rfl | rfl | rfl | rfl | rfl <;> split <;> split <;> omega
theorem step_right (w n : Int) (h : 1 ≤ w ∧ w ≤ 8) : step w n (n + 1) = 1 ↔ (n % w < w - 1 ∨ w = 1) := by
  unfold step absI
  rcases w8 h with rfl | rfl | rfl | rfl | rfl | rfl | rfl | rfl <;> split <;> split <;> omega
theorem step_four (w n m : Int) (h : 1 ≤ w ∧ w ≤ 8) (e : step w n m = 1) : m = n - w ∨ m = n - 1 ∨ m = n + 1 ∨ m = n + w := by
  unfold step absI at e
  rcases w8 h with rfl | rfl | rfl | rfl | rfl | rfl | rfl | rfl <;> split at e <;> split at e <;> omega
theorem step_comm (w n m : Int) : step w n m = step w m n := by
  unfold step absI
  split <;> split <;> split <;> split <;> omega
theorem apart_step {w h : Int} {l : List Int} {a b : Int} (ha : isCell w h l a = true) (hb : isCell w h l b = true) : apart w h l a b = step w a b := by
  unfold apart step
  rw [if_pos ⟨ha, hb⟩]
theorem isCell_mk {w h : Int} {l : List Int} {n : Int} (hl : isLand w h l = true) (h0 : 0 ≤ n) (h1 : n < l.length) : isCell w h l n = true := by
  simp only [isCell, hl, Bool.true_and, decide_eq_true_eq]
  omega
theorem isOpen_iff {w h : Int} {l : List Int} (hl : isLand w h l = true) (n : Int) : isOpen w h l n = true ↔ 0 ≤ n ∧ n < l.length ∧ rd l n ≠ 2 := by
  simp only [isOpen, isCell, hl, Bool.true_and, Bool.and_eq_true, decide_eq_true_eq, bne_iff_ne]
  omega
theorem mod_len {w h : Int} {l : List Int} (hl : isLand w h l = true) (n : Int) (h0 : 0 ≤ n) (h1 : n < l.length) (h2 : n % w < w - 1) : n + 1 < l.length := by
  obtain ⟨hw, hh, hlen, _, _⟩ := isLand_true hl
  have e := Int.emod_add_mul_ediv n w
  have hdiv : n / w < h := by
    refine Int.ediv_lt_of_lt_mul (by omega) ?_
    rw [Int.mul_comm]
    omega
  have h3 : w * (n / w + 1) ≤ w * h := Int.mul_le_mul_of_nonneg_left (by omega) (by omega)
  rw [Int.mul_add, Int.mul_one] at h3
  omega
/-- What is beside a cell: what is open, one step away. -/
theorem mem_near {w h : Int} {l : List Int} (hl : isLand w h l = true) {n : Int} (h0 : 0 ≤ n) (h1 : n < l.length) (m : Int) : m ∈ near w l n ↔ isOpen w h l m = true ∧ step w n m = 1 := by
  obtain ⟨hw, hh, hlen, _, _⟩ := isLand_true hl
  have m1 := Int.emod_nonneg n (show w ≠ 0 by omega)
  have m2 : n % w ≤ n := by
    have := Int.emod_add_mul_ediv n w
    have := Int.mul_nonneg (show 0 ≤ w by omega) (Int.ediv_nonneg h0 (show 0 ≤ w by omega))
    omega
  have hx : m ∈ near w l n ↔ (m = n - w ∧ w ≤ n ∧ rd l (n - w) ≠ 2) ∨ (m = n - 1 ∧ 0 < n % w ∧ rd l (n - 1) ≠ 2) ∨ (m = n + 1 ∧ n % w < w - 1 ∧ rd l (n + 1) ≠ 2) ∨ (m = n + w ∧ n + w < l.length ∧ rd l (n + w) ≠ 2) := by
    unfold near
    simp only [List.mem_append]
    have q : ∀ (c : Prop) [Decidable c] (x : Int), m ∈ (if c then [x] else []) ↔ (m = x ∧ c) := by
      intro c _ x
      by_cases hc : c <;> simp [hc]
    rw [q, q, q, q]
  rw [hx, isOpen_iff hl]
  constructor
  · rintro (⟨rfl, h2, h3⟩ | ⟨rfl, h2, h3⟩ | ⟨rfl, h2, h3⟩ | ⟨rfl, h2, h3⟩)
    · exact ⟨⟨by omega, by omega, h3⟩, step_up w n hw⟩
    · exact ⟨⟨by omega, by omega, h3⟩, (step_left w n hw).2 (Or.inl h2)⟩
    · exact ⟨⟨by omega, mod_len hl n h0 h1 h2, h3⟩, (step_right w n hw).2 (Or.inl h2)⟩
    · exact ⟨⟨by omega, h2, h3⟩, step_down w n hw⟩
  · rintro ⟨⟨h2, h3, h4⟩, h5⟩
    rcases step_four w n m hw h5 with rfl | rfl | rfl | rfl
    · exact Or.inl ⟨rfl, by omega, h4⟩
    · rcases (step_left w n hw).1 h5 with h6 | h6
      · exact Or.inr (Or.inl ⟨rfl, h6, h4⟩)
      · subst h6
        exact Or.inl ⟨rfl, by omega, h4⟩
    · rcases (step_right w n hw).1 h5 with h6 | h6
      · exact Or.inr (Or.inr (Or.inl ⟨rfl, h6, h4⟩))
      · subst h6
        exact Or.inr (Or.inr (Or.inr ⟨rfl, h3, h4⟩))
    · exact Or.inr (Or.inr (Or.inr ⟨rfl, h3, h4⟩))
theorem near_asc (w : Int) (l : List Int) (n : Int) (hw : 1 ≤ w) : (near w l n).Pairwise (· < ·) := by
  unfold near
  by_cases hw1 : w = 1
  · subst hw1
    rw [if_neg (c := 0 < n % 1 ∧ rd l (n - 1) ≠ 2) (by omega), if_neg (c := n % 1 < 1 - 1 ∧ rd l (n + 1) ≠ 2) (by omega)]
    split <;> split <;> simp
    omega
  · split <;> split <;> split <;> split <;> simp <;> omega

theorem isOpen_land {w h : Int} {l : List Int} {n : Int} (e : isOpen w h l n = true) : isLand w h l = true := by
  simp only [isOpen, Bool.and_eq_true] at e
  exact isCell_land e.1
theorem rd_in (l : List Int) (i : Int) (h0 : 0 ≤ i) (h1 : i < l.length) : rd l i ∈ l := by
  simp only [rd, List.getD_eq_getElem?_getD, List.getElem?_eq_getElem (show i.toNat < l.length by omega), Option.getD_some]
  exact List.getElem_mem _
/-- How many places hold no distance yet. -/
def neg (d : List Int) : Nat := d.countP fun x => decide (x < 0)
theorem neg_le (d : List Int) : neg d ≤ d.length := List.countP_le_length
theorem rd_set_self (d : List Int) (i v : Int) (h0 : 0 ≤ i) (h1 : i < d.length) : rd (d.set i.toNat v) i = v := by
  show (d.set i.toNat v).getD i.toNat 0 = v
  rw [List.getD_eq_getElem?_getD, List.getElem?_set_self (by omega)]
  rfl
theorem rd_set_ne (d : List Int) (i j v : Int) (h0 : 0 ≤ i) (hj : 0 ≤ j) (h : i ≠ j) : rd (d.set i.toNat v) j = rd d j := by
  show (d.set i.toNat v).getD j.toNat 0 = d.getD j.toNat 0
  rw [List.getD_eq_getElem?_getD, List.getD_eq_getElem?_getD, List.getElem?_set_ne (by omega)]
theorem neg_set (d : List Int) (i v : Int) (h0 : 0 ≤ i) (h1 : i < d.length) (hn : rd d i < 0) (hv : 0 ≤ v) : neg (d.set i.toNat v) + 1 = neg d := by
  have hi : i.toNat < d.length := by omega
  have hg : d[i.toNat] = rd d i := by
    show d[i.toNat] = d.getD i.toNat 0
    rw [List.getD_eq_getElem?_getD, List.getElem?_eq_getElem hi]
    rfl
  have hp : 0 < d.countP fun x => decide (x < 0) := List.countP_pos_iff.2 ⟨d[i.toNat], List.getElem_mem hi, by rw [hg]; exact decide_eq_true hn⟩
  unfold neg
  rw [List.countP_set hi, hg]
  simp only [decide_eq_true hn, if_true, decide_eq_false (show ¬ v < 0 by omega), Bool.false_eq_true, if_false]
  omega
/-- What the walk round one cell does: the distances, and what it queues. -/
def vis (c : Int) : List Int → List Int → List Int × List Int
  | [], d => (d, [])
  | x :: ys, d => if rd d x < 0 then ((vis c ys (d.set x.toNat (rd d c + 1))).1, x :: (vis c ys (d.set x.toNat (rd d c + 1))).2) else vis c ys d
def bfs (w : Int) (l : List Int) : Nat → List Int → List Int → List Int
  | 0, d, _ => d
  | _ + 1, d, [] => d
  | f + 1, d, c :: q => bfs w l f (vis c (near w l c) d).1 (q ++ (vis c (near w l c) d).2)
/-- The distances as they stand: one for each cell, none too great. -/
def BInv (l d : List Int) : Prop := d.length = l.length ∧ ∀ j, 0 ≤ j → rd d j + (neg d : Int) ≤ l.length
def QInv (l d q : List Int) : Prop := ∀ x ∈ q, 0 ≤ x ∧ x < l.length ∧ 0 ≤ rd d x
theorem binv_set {l d : List Int} (hd : BInv l d) {c x : Int} (hc : 0 ≤ c ∧ c < l.length ∧ 0 ≤ rd d c) (hx0 : 0 ≤ x) (hx1 : x < l.length) (hn : rd d x < 0) : BInv l (d.set x.toNat (rd d c + 1)) ∧ neg (d.set x.toNat (rd d c + 1)) + 1 = neg d ∧ rd (d.set x.toNat (rd d c + 1)) x = rd d c + 1 ∧ ∀ j, 0 ≤ j → 0 ≤ rd d j → rd (d.set x.toNat (rd d c + 1)) j = rd d j := by
  obtain ⟨hlen, hb⟩ := hd
  have hs := neg_set d x (rd d c + 1) hx0 (by omega) hn (by omega)
  have hself := rd_set_self d x (rd d c + 1) hx0 (by omega)
  refine ⟨⟨by simpa using hlen, ?_⟩, hs, hself, ?_⟩
  · intro j hj
    by_cases e : x = j
    · subst e
      rw [hself]
      have := hb c hc.1
      omega
    · rw [rd_set_ne d x j _ hx0 hj e]
      have := hb j hj
      omega
  · intro j hj h0
    have e : x ≠ j := by
      intro e
      subst e
      omega
    exact rd_set_ne d x j _ hx0 hj e
theorem vis_inv {l : List Int} {c : Int} : ∀ (ys d : List Int), BInv l d → (0 ≤ c ∧ c < l.length ∧ 0 ≤ rd d c) → (∀ x ∈ ys, 0 ≤ x ∧ x < l.length) → BInv l (vis c ys d).1 ∧ neg (vis c ys d).1 + (vis c ys d).2.length = neg d ∧ (∀ j, 0 ≤ j → 0 ≤ rd d j → rd (vis c ys d).1 j = rd d j) ∧ (∀ x ∈ (vis c ys d).2, (0 ≤ x ∧ x < l.length ∧ rd (vis c ys d).1 x = rd d c + 1) ∧ x ∈ ys) := by
  intro ys
  induction ys with
  | nil =>
    intro d hd hc _
    refine ⟨hd, by simp [vis], fun _ _ _ => rfl, ?_⟩
    intro x hx
    simp [vis] at hx
  | cons x ys ih =>
    intro d hd hc hys
    have hx := hys x List.mem_cons_self
    have hys' : ∀ x ∈ ys, 0 ≤ x ∧ x < l.length := fun y hy => hys y (List.mem_cons_of_mem _ hy)
    by_cases hn : rd d x < 0
    · obtain ⟨b1, b2, b3, b4⟩ := binv_set hd hc hx.1 hx.2 hn
      have hc' := b4 c hc.1 hc.2.2
      obtain ⟨i1, i2, i3, i4⟩ := ih _ b1 ⟨hc.1, hc.2.1, by rw [hc']; exact hc.2.2⟩ hys'
      simp only [vis, if_pos hn]
      refine ⟨i1, by rw [List.length_cons]; omega, ?_, ?_⟩
      · intro j hj h0
        rw [i3 j hj (by rw [b4 j hj h0]; exact h0), b4 j hj h0]
      · intro y hy
        rcases List.mem_cons.1 hy with rfl | hy
        · refine ⟨⟨hx.1, hx.2, ?_⟩, List.mem_cons_self⟩
          rw [i3 y hx.1 (by rw [b3]; omega), b3]
        · obtain ⟨⟨a, b, e⟩, g⟩ := i4 y hy
          rw [hc'] at e
          exact ⟨⟨a, b, e⟩, List.mem_cons_of_mem _ g⟩
    · simp only [vis, if_neg hn]
      obtain ⟨i1, i2, i3, i4⟩ := ih d hd hc hys'
      exact ⟨i1, i2, i3, fun y hy => ⟨(i4 y hy).1, List.mem_cons_of_mem _ (i4 y hy).2⟩⟩
theorem near_in {w h : Int} {l : List Int} (hl : isLand w h l = true) {n : Int} (h0 : 0 ≤ n) (h1 : n < l.length) : ∀ x ∈ near w l n, 0 ≤ x ∧ x < l.length := by
  intro x hx
  have := (isOpen_iff hl x).1 ((mem_near hl h0 h1 x).1 hx).1
  exact ⟨this.1, this.2.1⟩
theorem qinv_next {w h : Int} {l d q : List Int} {c : Int} (hl : isLand w h l = true) (hd : BInv l d) (hq : QInv l d (c :: q)) : BInv l (vis c (near w l c) d).1 ∧ QInv l (vis c (near w l c) d).1 (q ++ (vis c (near w l c) d).2) ∧ neg (vis c (near w l c) d).1 + (vis c (near w l c) d).2.length = neg d := by
  have hc := hq c List.mem_cons_self
  obtain ⟨i1, i2, i3, i4⟩ := vis_inv (near w l c) d hd hc (near_in hl hc.1 hc.2.1)
  refine ⟨i1, ?_, i2⟩
  intro x hx
  rcases List.mem_append.1 hx with hx | hx
  · have hh := hq x (List.mem_cons_of_mem _ hx)
    exact ⟨hh.1, hh.2.1, by rw [i3 x hh.1 hh.2.2]; exact hh.2.2⟩
  · obtain ⟨⟨a, b, e⟩, _⟩ := i4 x hx
    exact ⟨a, b, by rw [e]; omega⟩
def dist0 (l : List Int) (a : Int) : List Int := (List.replicate l.length (-1)).set a.toNat 0
def dist (w : Int) (l : List Int) (a : Int) : List Int := bfs w l (l.length + 1) (dist0 l a) [a]
theorem rd_rep (n : Nat) (j : Int) : rd (List.replicate n (-1)) j ≤ 0 := by
  show (List.replicate n (-1 : Int)).getD j.toNat 0 ≤ 0
  rw [List.getD_eq_getElem?_getD, List.getElem?_replicate]
  split <;> simp
theorem dist0_inv {l : List Int} {a : Int} (h0 : 0 ≤ a) (h1 : a < l.length) : BInv l (dist0 l a) ∧ QInv l (dist0 l a) [a] ∧ neg (dist0 l a) + 1 = l.length := by
  have hn : rd (List.replicate l.length (-1)) a < 0 := by
    show (List.replicate l.length (-1 : Int)).getD a.toNat 0 < 0
    rw [List.getD_eq_getElem?_getD, List.getElem?_replicate, if_pos (by omega)]
    simp
  have e : neg (List.replicate l.length (-1)) = l.length := by
    unfold neg
    rw [List.countP_replicate]
    simp
  have hs := neg_set (List.replicate l.length (-1)) a 0 h0 (by simpa using h1) hn (by omega)
  rw [e] at hs
  have hself := rd_set_self (List.replicate l.length (-1)) a 0 h0 (by simpa using h1)
  refine ⟨⟨by simp [dist0], ?_⟩, ?_, hs⟩
  · intro j hj
    unfold dist0
    by_cases e : a = j
    · subst e
      rw [hself]
      omega
    · rw [rd_set_ne _ a j _ h0 hj e]
      have := rd_rep l.length j
      omega
  · intro x hx
    rw [List.mem_singleton] at hx
    subst hx
    exact ⟨h0, h1, by unfold dist0; rw [hself]; omega⟩
theorem bfs_inv {w h : Int} {l : List Int} (hl : isLand w h l = true) : ∀ (f : Nat) (d q : List Int), BInv l d → QInv l d q → BInv l (bfs w l f d q) := by
  intro f
  induction f with
  | zero => intro d q hd _; exact hd
  | succ f ih =>
    intro d q hd hq
    cases q with
    | nil => exact hd
    | cons c q =>
      obtain ⟨i1, i2, _⟩ := qinv_next hl hd hq
      exact ih _ _ i1 i2
theorem dist_inv {w h : Int} {l : List Int} (hl : isLand w h l = true) {a : Int} (h0 : 0 ≤ a) (h1 : a < l.length) : BInv l (dist w l a) := by
  obtain ⟨i1, i2, _⟩ := dist0_inv h0 h1
  exact bfs_inv hl _ _ _ i1 i2
theorem dist_length {w h : Int} {l : List Int} (hl : isLand w h l = true) {a : Int} (h0 : 0 ≤ a) (h1 : a < l.length) : (dist w l a).length = l.length := (dist_inv hl h0 h1).1
theorem rd_mid (Q : List Int) (i : Int) (c : Int) (q : List Int) (h : Q.drop i.toNat = c :: q) : rd Q i = c := by
  show Q.getD i.toNat 0 = c
  have := congrArg (fun t => t[0]?) h
  simp only [List.getElem?_drop, Nat.add_zero, List.getElem?_cons_zero] at this
  rw [List.getD_eq_getElem?_getD, this]
  rfl

def Vd (l d : List Int) (j : Int) : Prop := (0 ≤ j ∧ j < l.length) ∧ 0 ≤ rd d j
theorem vis_more {l : List Int} {c : Int} : ∀ (ys d : List Int), BInv l d → (0 ≤ c ∧ c < l.length ∧ 0 ≤ rd d c) → (∀ x ∈ ys, 0 ≤ x ∧ x < l.length) → (∀ x ∈ ys, 0 ≤ rd (vis c ys d).1 x) ∧ ∀ j, 0 ≤ j → 0 ≤ rd (vis c ys d).1 j → 0 ≤ rd d j ∨ j ∈ (vis c ys d).2 := by
  intro ys
  induction ys with
  | nil =>
    intro d _ _ _
    refine ⟨fun x hx => by simp at hx, fun j _ h => Or.inl h⟩
  | cons x ys ih =>
    intro d hd hc hys
    have hx := hys x List.mem_cons_self
    have hys' : ∀ x ∈ ys, 0 ≤ x ∧ x < l.length := fun y hy => hys y (List.mem_cons_of_mem _ hy)
    by_cases hn : rd d x < 0
    · obtain ⟨b1, b2, b3, b4⟩ := binv_set hd hc hx.1 hx.2 hn
      have hc' := b4 c hc.1 hc.2.2
      have hcc : 0 ≤ c ∧ c < l.length ∧ 0 ≤ rd (d.set x.toNat (rd d c + 1)) c := ⟨hc.1, hc.2.1, by rw [hc']; exact hc.2.2⟩
      obtain ⟨i1, i2, i3, i4⟩ := vis_inv ys _ b1 hcc hys'
      obtain ⟨m1, m2⟩ := ih _ b1 hcc hys'
      simp only [vis, if_pos hn]
      refine ⟨?_, ?_⟩
      · intro y hy
        rcases List.mem_cons.1 hy with rfl | hy
        · rw [i3 y hx.1 (by rw [b3]; omega), b3]
          omega
        · exact m1 y hy
      · intro j hj h
        rcases m2 j hj h with h1 | h1
        · by_cases e : x = j
          · subst e
            exact Or.inr List.mem_cons_self
          · rw [rd_set_ne d x j _ hx.1 hj e] at h1
            exact Or.inl h1
        · exact Or.inr (List.mem_cons_of_mem _ h1)
    · simp only [vis, if_neg hn]
      obtain ⟨i1, i2, i3, i4⟩ := vis_inv ys d hd hc hys'
      obtain ⟨m1, m2⟩ := ih d hd hc hys'
      refine ⟨?_, m2⟩
      intro y hy
      rcases List.mem_cons.1 hy with rfl | hy
      · rw [i3 y hx.1 (by omega)]
        omega
      · exact m1 y hy
/-- What holds of the distances as they stand, while cells wait. -/
structure BF (w h : Int) (l : List Int) (b : Int) (d q : List Int) : Prop where
  inv : BInv l d
  qi : QInv l d q
  opn : ∀ v, Vd l d v → isOpen w h l v = true
  src : Vd l d b ∧ rd d b = 0
  par : ∀ v, Vd l d v → v = b ∨ ∃ u, Vd l d u ∧ v ∈ near w l u ∧ rd d v = rd d u + 1
  don : ∀ v, Vd l d v → v ∈ q ∨ ∀ y ∈ near w l v, 0 ≤ rd d y ∧ rd d y ≤ rd d v + 1
  srt : q.Pairwise fun x y => rd d x ≤ rd d y
  top : ∀ c, q.head? = some c → ∀ v, Vd l d v → rd d v ≤ rd d c + 1
theorem bf_next {w h : Int} {l : List Int} (hl : isLand w h l = true) {b : Int} {d q : List Int} {c : Int} (B : BF w h l b d (c :: q)) : BF w h l b (vis c (near w l c) d).1 (q ++ (vis c (near w l c) d).2) := by
  obtain ⟨n1, n2, n3⟩ := qinv_next hl B.inv B.qi
  have hc := B.qi c List.mem_cons_self
  have hin := near_in hl hc.1 hc.2.1
  obtain ⟨_, _, i3, i4⟩ := vis_inv (near w l c) d B.inv hc hin
  obtain ⟨m1, m2⟩ := vis_more (near w l c) d B.inv hc hin
  generalize hd' : (vis c (near w l c) d).1 = d' at *
  generalize hq' : (vis c (near w l c) d).2 = a at *
  have up : ∀ v, Vd l d v → Vd l d' v ∧ rd d' v = rd d v := by
    intro v hv
    have e := i3 v hv.1.1 hv.2
    exact ⟨⟨hv.1, by rw [e]; exact hv.2⟩, e⟩
  have dn : ∀ v, Vd l d' v → Vd l d v ∨ v ∈ a := by
    intro v hv
    rcases m2 v hv.1.1 hv.2 with h1 | h1
    · exact Or.inl ⟨hv.1, h1⟩
    · exact Or.inr h1
  have cv : Vd l d c := ⟨⟨hc.1, hc.2.1⟩, hc.2.2⟩
  have ec := (up c cv).2
  have qv : ∀ x ∈ q, Vd l d x := by
    intro x hx
    have := B.qi x (List.mem_cons_of_mem _ hx)
    exact ⟨⟨this.1, this.2.1⟩, this.2.2⟩
  have tp := B.top c rfl
  have all : ∀ v, Vd l d' v → rd d' v ≤ rd d c + 1 := by
    intro v hv
    rcases dn v hv with h1 | h1
    · rw [(up v h1).2]; exact tp v h1
    · rw [(i4 v h1).1.2.2]; omega
  have low : ∀ x ∈ q ++ a, rd d c ≤ rd d' x := by
    intro x hx
    rcases List.mem_append.1 hx with h1 | h1
    · rw [(up x (qv x h1)).2]
      exact (List.pairwise_cons.1 B.srt).1 x h1
    · rw [(i4 x h1).1.2.2]; omega
  refine ⟨n1, n2, ?_, ?_, ?_, ?_, ?_, ?_⟩
  · intro v hv
    rcases dn v hv with h1 | h1
    · exact B.opn v h1
    · exact ((mem_near hl hc.1 hc.2.1 v).1 (i4 v h1).2).1
  · exact ⟨(up b B.src.1).1, by rw [(up b B.src.1).2]; exact B.src.2⟩
  · intro v hv
    rcases dn v hv with h1 | h1
    · rcases B.par v h1 with h2 | ⟨u, h2, h3, h4⟩
      · exact Or.inl h2
      · exact Or.inr ⟨u, (up u h2).1, h3, by rw [(up u h2).2, (up v h1).2]; exact h4⟩
    · exact Or.inr ⟨c, (up c cv).1, (i4 v h1).2, by rw [ec]; exact (i4 v h1).1.2.2⟩
  · intro v hv
    rcases dn v hv with h1 | h1
    · rcases B.don v h1 with h2 | h2
      · rcases List.mem_cons.1 h2 with rfl | h2
        · refine Or.inr (fun y hy => ?_)
          have h3 := m1 y hy
          refine ⟨h3, ?_⟩
          rw [ec]
          exact all y ⟨hin y hy, h3⟩
        · exact Or.inl (List.mem_append_left _ h2)
      · refine Or.inr (fun y hy => ?_)
        have h3 := h2 y hy
        rw [(up v h1).2, (up y ⟨near_in hl h1.1.1 h1.1.2 y hy, h3.1⟩).2]
        exact h3
    · exact Or.inl (List.mem_append_right _ h1)
  · refine List.pairwise_append.2 ⟨?_, ?_, ?_⟩
    · refine List.Pairwise.imp_of_mem ?_ (List.pairwise_cons.1 B.srt).2
      intro x y hx hy hxy
      rw [(up x (qv x hx)).2, (up y (qv y hy)).2]
      exact hxy
    · refine List.Pairwise.imp_of_mem (R := fun _ _ => True) ?_ (List.pairwise_of_forall (fun _ _ => trivial))
      intro x y hx hy _
      rw [(i4 x hx).1.2.2, (i4 y hy).1.2.2]
      omega
    · intro x hx y hy
      rw [(up x (qv x hx)).2, (i4 y hy).1.2.2]
      exact tp x (qv x hx)
  · intro c' hc' v hv
    have h1 := low c' (List.mem_of_mem_head? hc')
    have h2 := all v hv
    omega
theorem bf_done {w h : Int} {l : List Int} (hl : isLand w h l = true) {b : Int} : ∀ (f : Nat) (d q : List Int), BF w h l b d q → q.length + neg d < f → BF w h l b (bfs w l f d q) [] := by
  intro f
  induction f with
  | zero => intro d q _ h; omega
  | succ f ih =>
    intro d q B hf
    cases q with
    | nil => exact B
    | cons c q =>
      rw [List.length_cons] at hf
      obtain ⟨n1, n2, n3⟩ := qinv_next hl B.inv B.qi
      exact ih _ _ (bf_next hl B) (by rw [List.length_append]; omega)
theorem bf_dist {w h : Int} {l : List Int} {b : Int} (hb : isOpen w h l b = true) : BF w h l b (dist w l b) [] := by
  have hl := isOpen_land hb
  obtain ⟨b0, b1, _⟩ := (isOpen_iff hl b).1 hb
  obtain ⟨i1, i2, i3⟩ := dist0_inv b0 b1
  have only : ∀ v, Vd l (dist0 l b) v → v = b := by
    intro v hv
    by_cases e : b = v
    · exact e.symm
    · have h1 := hv.2
      unfold dist0 at h1
      rw [rd_set_ne _ b v 0 b0 hv.1.1 e] at h1
      have h2 : rd (List.replicate l.length (-1)) v = -1 := by
        show (List.replicate l.length (-1 : Int)).getD v.toNat 0 = -1
        have := hv.1
        rw [List.getD_eq_getElem?_getD, List.getElem?_replicate, if_pos (by omega)]
        rfl
      omega
  have hself : rd (dist0 l b) b = 0 := rd_set_self (List.replicate l.length (-1)) b 0 b0 (by simpa using b1)
  refine bf_done hl _ _ _ ⟨i1, i2, ?_, ?_, ?_, ?_, ?_, ?_⟩ (by simp; omega)
  · intro v hv
    rw [only v hv]
    exact hb
  · exact ⟨⟨⟨b0, b1⟩, by omega⟩, hself⟩
  · intro v hv
    exact Or.inl (only v hv)
  · intro v hv
    exact Or.inl (by rw [only v hv]; exact List.mem_singleton.2 rfl)
  · exact List.pairwise_singleton _ _
  · intro c hc v hv
    have h1 := only v hv
    subst h1
    simp only [List.head?_cons, Option.some.injEq] at hc
    subst hc
    omega
theorem near_sym {w h : Int} {l : List Int} {u v : Int} (hl : isLand w h l = true) (hu : isOpen w h l u = true) (h1 : v ∈ near w l u) : u ∈ near w l v := by
  obtain ⟨u0, u1, _⟩ := (isOpen_iff hl u).1 hu
  obtain ⟨a, b⟩ := (mem_near hl u0 u1 v).1 h1
  obtain ⟨v0, v1, _⟩ := (isOpen_iff hl v).1 a
  exact (mem_near hl v0 v1 u).2 ⟨hu, by rw [step_comm]; exact b⟩
/-- A neighbour of a cell that is reached: reached too, and no more than a day away from it. -/
theorem dist_near {w h : Int} {l : List Int} {b : Int} (hb : isOpen w h l b = true) {v y : Int} (hv : Vd l (dist w l b) v) (hy : y ∈ near w l v) : Vd l (dist w l b) y ∧ rd (dist w l b) y ≤ rd (dist w l b) v + 1 ∧ rd (dist w l b) v ≤ rd (dist w l b) y + 1 := by
  have hl := isOpen_land hb
  have B := bf_dist hb
  have q1 : ∀ v, Vd l (dist w l b) v → ∀ y ∈ near w l v, 0 ≤ rd (dist w l b) y ∧ rd (dist w l b) y ≤ rd (dist w l b) v + 1 := by
    intro v hv
    rcases B.don v hv with h1 | h1
    · simp at h1
    · exact h1
  have h1 := q1 v hv y hy
  have hyv : Vd l (dist w l b) y := ⟨near_in hl hv.1.1 hv.1.2 y hy, h1.1⟩
  exact ⟨hyv, h1.2, (q1 y hyv v (near_sym hl (B.opn v hv) hy)).2⟩
/-- A cell that is reached, not the first: it has a neighbour a day nearer. -/
theorem dist_down {w h : Int} {l : List Int} {b : Int} (hb : isOpen w h l b = true) {v : Int} (hv : Vd l (dist w l b) v) (hne : v ≠ b) : ∃ u ∈ near w l v, Vd l (dist w l b) u ∧ rd (dist w l b) v = rd (dist w l b) u + 1 := by
  have hl := isOpen_land hb
  have B := bf_dist hb
  rcases B.par v hv with h1 | ⟨u, h1, h2, h3⟩
  · exact absurd h1 hne
  · exact ⟨u, near_sym hl (B.opn u h1) h2, h1, h3⟩
theorem dist_self {w h : Int} {l : List Int} {b : Int} (hb : isOpen w h l b = true) : rd (dist w l b) b = 0 := (bf_dist hb).src.2
/-- Who is reached from the one end, reaches the other: with one cell common to both. -/
theorem dist_swap {w h : Int} {l : List Int} {a b : Int} (ha : isOpen w h l a = true) (hb : isOpen w h l b = true) (h1 : 0 ≤ rd (dist w l a) b) : 0 ≤ rd (dist w l b) a := by
  have hl := isOpen_land hb
  have A := bf_dist ha
  obtain ⟨a0, a1, _⟩ := (isOpen_iff hl a).1 ha
  obtain ⟨b0, b1, _⟩ := (isOpen_iff hl b).1 hb
  have key : ∀ (n : Nat) (v : Int), Vd l (dist w l a) v → rd (dist w l a) v = n → 0 ≤ rd (dist w l b) v → 0 ≤ rd (dist w l b) a := by
    intro n
    induction n with
    | zero =>
      intro v hv e hb'
      by_cases hne : v = a
      · subst hne; exact hb'
      · obtain ⟨u, _, hu, he⟩ := dist_down ha hv hne
        have := hu.2
        omega
    | succ n ih =>
      intro v hv e hb'
      by_cases hne : v = a
      · subst hne; exact hb'
      · obtain ⟨u, hn, hu, he⟩ := dist_down ha hv hne
        refine ih u hu (by omega) ?_
        exact (dist_near hb (v := v) ⟨hv.1, hb'⟩ hn).1.2
  have e0 := dist_self hb
  exact key (rd (dist w l a) b).toNat b ⟨⟨b0, b1⟩, h1⟩ (by omega) (by omega)

def days (w h : Int) (l : List Int) (a b : Int) : Int := if isOpen w h l a = true ∧ isOpen w h l b = true then rd (dist w l a) b else -1

/-- The first that is nearer, or else what is given. -/
def nx (d : List Int) (c : Int) : List Int → Int → Int
  | [], e => e
  | y :: t, e => if rd d y < rd d c then y else nx d c t e
theorem nx_snoc (d : List Int) (c y : Int) (t : List Int) : ∀ e, nx d c (t ++ [y]) e = nx d c t (if rd d y < rd d c then y else e) := by
  induction t with
  | nil => intro e; rfl
  | cons x t ih =>
    intro e
    simp only [List.cons_append, nx]
    rw [ih]
theorem nx_mem (d : List Int) (c e : Int) (t : List Int) (h : ∃ y ∈ t, rd d y < rd d c) : nx d c t e ∈ t ∧ rd d (nx d c t e) < rd d c := by
  induction t with
  | nil =>
    obtain ⟨y, hy, _⟩ := h
    simp at hy
  | cons x t ih =>
    unfold nx
    by_cases c1 : rd d x < rd d c
    · rw [if_pos c1]
      exact ⟨List.mem_cons_self, c1⟩
    · rw [if_neg c1]
      obtain ⟨y, hy, hlt⟩ := h
      rcases List.mem_cons.1 hy with rfl | hy
      · exact absurd hlt c1
      · obtain ⟨a, b⟩ := ih ⟨y, hy, hlt⟩
        exact ⟨List.mem_cons_of_mem _ a, b⟩
def wayGo (w : Int) (l d : List Int) : Nat → Int → List Int → List Int
  | 0, _, o => o
  | n + 1, c, o => wayGo w l d n (nx d c (near w l c) c) (o ++ [nx d c (near w l c) c])
theorem wayGo_length (w : Int) (l d : List Int) : ∀ (n : Nat) (c : Int) (o : List Int), (wayGo w l d n c o).length = o.length + n := by
  intro n
  induction n with
  | zero => intro c o; rfl
  | succ n ih =>
    intro c o
    unfold wayGo
    rw [ih, List.length_append, List.length_singleton]
    omega
theorem nx_next {w h : Int} {l : List Int} {b : Int} (hb : isOpen w h l b = true) {c : Int} (hc : Vd l (dist w l b) c) (hne : c ≠ b) : nx (dist w l b) c (near w l c) c ∈ near w l c ∧ Vd l (dist w l b) (nx (dist w l b) c (near w l c) c) ∧ rd (dist w l b) c = rd (dist w l b) (nx (dist w l b) c (near w l c) c) + 1 := by
  obtain ⟨u, hu, hv, he⟩ := dist_down hb hc hne
  obtain ⟨m1, m2⟩ := nx_mem (dist w l b) c c (near w l c) ⟨u, hu, by omega⟩
  obtain ⟨n1, n2, n3⟩ := dist_near hb hc m1
  exact ⟨m1, n1, by omega⟩
def wayTo (w h : Int) (l : List Int) (a b : Int) : List Int := if days w h l a b < 0 then [] else wayGo w l (dist w l b) (rd (dist w l b) a).toNat a [a]
/-- A way is sought only between two open cells, each reached from the other. -/
theorem days_pos {w h : Int} {l : List Int} {a b : Int} (hd : ¬ days w h l a b < 0) : isOpen w h l a = true ∧ isOpen w h l b = true ∧ Vd l (dist w l b) a ∧ rd (dist w l b) a ≤ 64 := by
  unfold days at hd
  by_cases c : isOpen w h l a = true ∧ isOpen w h l b = true
  · rw [if_pos c] at hd
    have hl := isOpen_land c.1
    obtain ⟨_, _, _, h64, _⟩ := isLand_true hl
    obtain ⟨a0, a1, _⟩ := (isOpen_iff hl a).1 c.1
    obtain ⟨b0, b1, _⟩ := (isOpen_iff hl b).1 c.2
    have := (dist_inv hl b0 b1).2 a a0
    exact ⟨c.1, c.2, ⟨⟨a0, a1⟩, dist_swap c.1 c.2 (by omega)⟩, by omega⟩
  · rw [if_neg c] at hd
    omega
theorem wayTo_length (w h : Int) (l : List Int) (a b : Int) : (wayTo w h l a b).length ≤ 65 := by
  unfold wayTo
  split
  · simp
  · rename_i hd
    have := (days_pos hd).2.2.2
    rw [wayGo_length, List.length_singleton]
    omega

theorem vis_low {l : List Int} {c : Int} : ∀ (ys d : List Int), BInv l d → (0 ≤ c ∧ c < l.length ∧ 0 ≤ rd d c) → (∀ x ∈ ys, 0 ≤ x ∧ x < l.length) → (∀ j, 0 ≤ j → -1 ≤ rd d j) → ∀ j, 0 ≤ j → -1 ≤ rd (vis c ys d).1 j := by
  intro ys
  induction ys with
  | nil => intro d _ _ _ h; exact h
  | cons x ys ih =>
    intro d hd hc hys h
    have hx := hys x List.mem_cons_self
    have hys' : ∀ x ∈ ys, 0 ≤ x ∧ x < l.length := fun y hy => hys y (List.mem_cons_of_mem _ hy)
    by_cases hn : rd d x < 0
    · obtain ⟨b1, b2, b3, b4⟩ := binv_set hd hc hx.1 hx.2 hn
      have hc' := b4 c hc.1 hc.2.2
      simp only [vis, if_pos hn]
      refine ih _ b1 ⟨hc.1, hc.2.1, by rw [hc']; exact hc.2.2⟩ hys' ?_
      intro j hj
      by_cases e : x = j
      · subst e
        rw [b3]
        omega
      · rw [rd_set_ne d x j _ hx.1 hj e]
        exact h j hj
    · simp only [vis, if_neg hn]
      exact ih d hd hc hys' h
theorem bfs_low {w h : Int} {l : List Int} (hl : isLand w h l = true) : ∀ (f : Nat) (d q : List Int), BInv l d → QInv l d q → (∀ j, 0 ≤ j → -1 ≤ rd d j) → ∀ j, 0 ≤ j → -1 ≤ rd (bfs w l f d q) j := by
  intro f
  induction f with
  | zero => intro d q _ _ h; exact h
  | succ f ih =>
    intro d q hd hq h
    cases q with
    | nil => exact h
    | cons c q =>
      obtain ⟨i1, i2, _⟩ := qinv_next hl hd hq
      have hc := hq c List.mem_cons_self
      exact ih _ _ i1 i2 (vis_low (near w l c) d hd hc (near_in hl hc.1 hc.2.1) h)
theorem dist_low {w h : Int} {l : List Int} {a : Int} (ha : isOpen w h l a = true) : ∀ j, 0 ≤ j → -1 ≤ rd (dist w l a) j := by
  have hl := isOpen_land ha
  obtain ⟨a0, a1, _⟩ := (isOpen_iff hl a).1 ha
  obtain ⟨i1, i2, _⟩ := dist0_inv a0 a1
  refine bfs_low hl _ _ _ i1 i2 ?_
  intro j hj
  unfold dist0
  by_cases e : a = j
  · subst e
    rw [rd_set_self _ a 0 a0 (by simpa using a1)]
    omega
  · rw [rd_set_ne _ a j 0 a0 hj e]
    show -1 ≤ (List.replicate l.length (-1 : Int)).getD j.toNat 0
    rw [List.getD_eq_getElem?_getD, List.getElem?_replicate]
    split <;> simp
theorem dist_tri {w h : Int} {l : List Int} {a b : Int} (ha : isOpen w h l a = true) (hb : isOpen w h l b = true) : ∀ (n : Nat) (v : Int), Vd l (dist w l a) v → Vd l (dist w l b) v → rd (dist w l b) v = n → 0 ≤ rd (dist w l a) b ∧ rd (dist w l a) b ≤ rd (dist w l a) v + n := by
  intro n
  induction n with
  | zero =>
    intro v h1 h2 e
    by_cases hne : v = b
    · subst hne
      exact ⟨h1.2, by omega⟩
    · obtain ⟨u, _, hu, he⟩ := dist_down hb h2 hne
      have := hu.2
      omega
  | succ n ih =>
    intro v h1 h2 e
    by_cases hne : v = b
    · subst hne
      exact ⟨h1.2, by omega⟩
    · obtain ⟨u, hn, hu, he⟩ := dist_down hb h2 hne
      obtain ⟨g1, g2, g3⟩ := dist_near ha h1 hn
      obtain ⟨k1, k2⟩ := ih u g1 hu (by omega)
      exact ⟨k1, by omega⟩
theorem dist_sym {w h : Int} {l : List Int} {a b : Int} (ha : isOpen w h l a = true) (hb : isOpen w h l b = true) : rd (dist w l a) b = rd (dist w l b) a := by
  have hl := isOpen_land ha
  obtain ⟨a0, a1, _⟩ := (isOpen_iff hl a).1 ha
  obtain ⟨b0, b1, _⟩ := (isOpen_iff hl b).1 hb
  have sa := dist_self ha
  have sb := dist_self hb
  have la := dist_low ha b b0
  have lb := dist_low hb a a0
  by_cases h1 : 0 ≤ rd (dist w l a) b
  · have h2 := dist_swap ha hb h1
    have t1 := dist_tri ha hb (rd (dist w l b) a).toNat a ⟨⟨a0, a1⟩, by omega⟩ ⟨⟨a0, a1⟩, h2⟩ (by omega)
    have t2 := dist_tri hb ha (rd (dist w l a) b).toNat b ⟨⟨b0, b1⟩, by omega⟩ ⟨⟨b0, b1⟩, h1⟩ (by omega)
    omega
  · have h2 : ¬ 0 ≤ rd (dist w l b) a := fun hx => h1 (dist_swap hb ha hx)
    omega
theorem days_sym (w h : Int) (l : List Int) (a b : Int) : days w h l a b = days w h l b a := by
  unfold days
  by_cases c : isOpen w h l a = true ∧ isOpen w h l b = true
  · rw [if_pos c, if_pos ⟨c.2, c.1⟩, dist_sym c.1 c.2]
  · rw [if_neg c, if_neg (fun hx => c ⟨hx.2, hx.1⟩)]
theorem days_at {w h : Int} {l : List Int} {b x : Int} (hb : isOpen w h l b = true) (hx : Vd l (dist w l b) x) : days w h l x b = rd (dist w l b) x := by
  have ho := (bf_dist hb).opn x hx
  unfold days
  rw [if_pos ⟨ho, hb⟩, dist_sym ho hb]
/-- What follows the first cell of a way. -/
def wt (w : Int) (l d : List Int) : Nat → Int → List Int
  | 0, _ => []
  | n + 1, c => nx d c (near w l c) c :: wt w l d n (nx d c (near w l c) c)
theorem wayGo_eq (w : Int) (l d : List Int) : ∀ (n : Nat) (c : Int) (o : List Int), wayGo w l d n c o = o ++ wt w l d n c := by
  intro n
  induction n with
  | zero => intro c o; simp [wayGo, wt]
  | succ n ih =>
    intro c o
    unfold wayGo wt
    rw [ih, List.append_assoc, List.singleton_append]
theorem wt_length (w : Int) (l d : List Int) : ∀ (n : Nat) (c : Int), (wt w l d n c).length = n := by
  intro n
  induction n with
  | zero => intro c; rfl
  | succ n ih => intro c; simp [wt, ih]
theorem wt_at {w h : Int} {l : List Int} {b : Int} (hb : isOpen w h l b = true) : ∀ (n : Nat) (c : Int), Vd l (dist w l b) c → rd (dist w l b) c = n → ∀ i, i ≤ n → ∃ x, Vd l (dist w l b) x ∧ rd (dist w l b) x = ((n - i : Nat) : Int) ∧ (c :: wt w l (dist w l b) n c).drop i = x :: wt w l (dist w l b) (n - i) x := by
  intro n
  induction n with
  | zero =>
    intro c hc e i hi
    have : i = 0 := by omega
    subst this
    exact ⟨c, hc, e, rfl⟩
  | succ n ih =>
    intro c hc e i hi
    cases i with
    | zero => exact ⟨c, hc, e, rfl⟩
    | succ i =>
      have hne : c ≠ b := by
        intro hcb
        subst hcb
        have := dist_self hb
        omega
      obtain ⟨m1, m2, m3⟩ := nx_next hb hc hne
      obtain ⟨x, x1, x2, x3⟩ := ih _ m2 (by omega) i (by omega)
      refine ⟨x, x1, ?_, ?_⟩
      · rw [x2]
        congr 1
        omega
      · rw [show n + 1 - (i + 1) = n - i from by omega]
        exact x3
theorem wayTo_eq {w h : Int} {l : List Int} {b x : Int} (hb : isOpen w h l b = true) (hx : Vd l (dist w l b) x) : wayTo w h l x b = x :: wt w l (dist w l b) (rd (dist w l b) x).toNat x := by
  have h0 := hx.2
  unfold wayTo
  rw [days_at hb hx, if_neg (by omega), wayGo_eq]
  rfl
theorem step_self (w a : Int) : step w a a = 0 := by
  unfold step absI
  split <;> split <;> omega
theorem step_tri (w a b c : Int) : step w a c ≤ step w a b + step w b c := by
  unfold step absI
  split <;> split <;> split <;> split <;> split <;> split <;> omega
theorem step_dist {w h : Int} {l : List Int} {b : Int} (hb : isOpen w h l b = true) : ∀ (n : Nat) (v : Int), Vd l (dist w l b) v → rd (dist w l b) v = n → step w v b ≤ n := by
  have hl := isOpen_land hb
  intro n
  induction n with
  | zero =>
    intro v hv e
    by_cases hne : v = b
    · subst hne
      rw [step_self]
      omega
    · obtain ⟨u, _, hu, he⟩ := dist_down hb hv hne
      have := hu.2
      omega
  | succ n ih =>
    intro v hv e
    by_cases hne : v = b
    · subst hne
      rw [step_self]
      omega
    · obtain ⟨u, hn, hu, he⟩ := dist_down hb hv hne
      have h1 := ih u hu (by omega)
      have h2 := ((mem_near hl hv.1.1 hv.1.2 u).1 hn).2
      have h3 := step_tri w v u b
      omega

theorem and255 (y : Int) : 0 ≤ Go.bits .and .i64 y 255 ∧ Go.bits .and .i64 y 255 ≤ 255 := by
  simp only [Go.bits, BitVec.toNat_and]
  have h : (BitVec.ofInt IntKind.i64.bits y).toNat &&& (BitVec.ofInt IntKind.i64.bits 255).toNat ≤ 255 := by
    have e : (BitVec.ofInt IntKind.i64.bits 255).toNat = 255 := by decide
    rw [e]
    exact Nat.and_le_right
  rw [IntKind.wrap_i64]
  omega
theorem l1Byte_ex (b : List Int) (i h : Int) (hi : 0 ≤ i) (hb : b.length ≤ 1048576) : ∃ x i' h', spec_l1Byte.f b i h = some (x, i', h') ∧ (0 ≤ x ∧ x ≤ 255) ∧ 0 ≤ i' := by
  unfold spec_l1Byte.f
  by_cases c : i < (b.length : Int)
  · rw [if_pos c, if_pos hi]
    exact ⟨_, _, _, rfl, and255 _, by rw [wrapS (by omega) (by omega)]; omega⟩
  · rw [if_neg c]
    exact ⟨_, _, _, rfl, and255 _, hi⟩

theorem l1Below_ex (b : List Int) (i h n : Int) (hi : 0 ≤ i) (hb : b.length ≤ 1048576) : ∃ x i' h', spec_l1Below.f b i h n = some (x, i', h') ∧ (n ≤ 0 → x = 0) ∧ (0 < n → 0 ≤ x ∧ x < n) ∧ 0 ≤ i' := by
  unfold spec_l1Below.f
  by_cases c : n ≤ 0
  · rw [if_pos c]
    exact ⟨_, _, _, rfl, fun _ => rfl, fun h => by omega, hi⟩
  · rw [if_neg c]
    have fin : ∀ v : Int, 0 ≤ v → 0 ≤ Int.tmod v n ∧ Int.tmod v n < n := by
      intro v hv
      rw [Int.tmod_eq_emod_of_nonneg hv]
      exact ⟨Int.emod_nonneg _ (by omega), Int.emod_lt_of_pos _ (by omega)⟩
    obtain ⟨x, i1, h1, e1, b1, g1⟩ := l1Byte_ex b i h hi hb
    by_cases c2 : n ≤ 256
    · rw [if_pos c2, e1]
      simp only [Option.bind_some]
      rw [if_neg (by omega)]
      exact ⟨_, _, _, rfl, fun h => absurd h c, fun _ => fin x b1.1, g1⟩
    · rw [if_neg c2, e1]
      obtain ⟨y, i2, h2, e2, b2, g2⟩ := l1Byte_ex b i1 h1 g1 hb
      obtain ⟨z, i3, h3, e3, b3, g3⟩ := l1Byte_ex b i2 h2 g2 hb
      simp only [Option.bind_some, e2, e3]
      rw [if_neg (by omega)]
      refine ⟨_, _, _, rfl, fun h => absurd h c, fun _ => fin _ ?_, g3⟩
      rw [wrapS (x := x * 65536) (by omega) (by omega), wrapS (x := y * 256) (by omega) (by omega), wrapS (x := x * 65536 + y * 256) (by omega) (by omega), wrapS (by omega) (by omega)]
      omega

theorem l1Int_ex (b : List Int) (i h : Int) (l : List Int) (hl : 0 < l.length) (hi : 0 ≤ i) (hb : b.length ≤ 1048576) : ∃ x i' h', spec_l1Int.f b i h l = some (x, i', h') ∧ x ∈ l ∧ 0 ≤ i' := by
  unfold spec_l1Int.f
  obtain ⟨x, i1, h1, e1, _, b1, g1⟩ := l1Below_ex b i h (l.length : Int) hi hb
  have b1 := b1 (by omega)
  rw [e1]
  simp only [Option.bind_some]
  rw [if_pos b1.1, if_pos b1.2]
  refine ⟨_, _, _, rfl, ?_, g1⟩
  simp only [rd, List.getD_eq_getElem?_getD, List.getElem?_eq_getElem (show x.toNat < l.length by omega), Option.getD_some]
  exact List.getElem_mem _

theorem l1New_ex (l : List Int) (hl : l.length ≤ 1048576) : ∃ h, Ev (fun k => spec_l1New.f k l) (l, 0, h) := by
  have key : ∀ (d : Nat) (x i : Int), 0 ≤ i → i + d = l.length → ∃ h, Ev (fun k => spec_l1New.l0 k l x i) (l, 0, h) := by
    intro d
    induction d with
    | zero =>
      intro x i h0 hi
      refine ⟨x, Ev.step (f := fun _ => some (l, 0, x)) (fun k => ?_) (Ev.now _)⟩
      simp only [spec_l1New.l0]
      rw [if_neg (by omega)]
    | succ d ih =>
      intro x i h0 hi
      by_cases c : i < 4000
      · obtain ⟨h, hh⟩ := ih (Go.bits .and .i64 (wrap64 ((wrap64 ((wrap64 (x * 137)) + (wrap64 (rd l i)))) + 11)) 1073741823) (i + 1) (by omega) (by omega)
        refine ⟨h, Ev.step (fun k => ?_) hh⟩
        simp only [spec_l1New.l0]
        rw [if_pos (by omega), if_pos c, if_pos h0, wrapS (x := i + 1) (by omega) (by omega)]
      · refine ⟨x, Ev.step (f := fun _ => some (l, 0, x)) (fun k => ?_) (Ev.now _)⟩
        simp only [spec_l1New.l0]
        rw [if_pos (by omega), if_neg c]
  unfold spec_l1New.f
  exact key l.length _ 0 (by omega) (by omega)

theorem l4Raw_ex (b : List Int) (i h : Int) (hi : 0 ≤ i) (hb : b.length ≤ 1048576) : ∃ x i' h', spec_l4Raw.f b i h = some (x, i', h') ∧ (-9223372036854775808 ≤ x ∧ x ≤ 9223372036854775807) ∧ 0 ≤ i' := by
  unfold spec_l4Raw.f
  obtain ⟨x, i1, h1, e1, m1, g1⟩ := l1Int_ex b i h [(-1), 0, 8, 9, 64, 9223372036854775807, (-9223372036854775808)] (by simp) hi hb
  rw [e1]
  refine ⟨_, _, _, rfl, ?_, g1⟩
  simp only [List.mem_cons, List.not_mem_nil, or_false] at m1
  show -9223372036854775808 ≤ x ∧ x ≤ 9223372036854775807
  omega
theorem l4Draw_ex (b : List Int) (i h : Int) (hi : 0 ≤ i) (hb : b.length ≤ 1048576) : ∃ w hh l i' h', Ev (fun k => spec_l4Draw.f k b i h) (w, hh, l, i', h') ∧ (2 ≤ w ∧ w ≤ 6) ∧ (2 ≤ hh ∧ hh ≤ 5) ∧ 0 < l.length ∧ l.length ≤ 30 ∧ 0 ≤ i' := by
  unfold spec_l4Draw.f
  obtain ⟨x, i1, h1, e1, _, b1, g1⟩ := l1Below_ex b i h 5 hi hb
  obtain ⟨y, i2, h2, e2, _, b2, g2⟩ := l1Below_ex b i1 h1 4 g1 hb
  have b1 := b1 (by omega)
  have b2 := b2 (by omega)
  have w1 : wrap64 (2 + x) = 2 + x := wrapS (by omega) (by omega)
  have w2 : wrap64 (2 + y) = 2 + y := wrapS (by omega) (by omega)
  have hm : (2 + x) * (2 + y) ≤ 6 * 5 := Int.mul_le_mul (by omega) (by omega) (by omega) (by omega)
  have hp : 0 < (2 + x) * (2 + y) := Int.mul_pos (by omega) (by omega)
  have w3 : wrap64 ((2 + x) * (2 + y)) = (2 + x) * (2 + y) := wrapS (by omega) (by omega)
  have key : ∀ (n : Nat) (l : List Int) (j i h : Int), 0 ≤ j → j + n = (2 + x) * (2 + y) → (l.length : Int) = j → 0 ≤ i → ∃ l' i' h', Ev (fun k => spec_l4Draw.l0 k j b i h (2 + x) (2 + y) l) (2 + x, 2 + y, l', i', h') ∧ 0 < l'.length ∧ l'.length ≤ 30 ∧ 0 ≤ i' := by
    intro n
    induction n with
    | zero =>
      intro l j i h hj hjn hlen hi
      refine ⟨l.set (0 : Int).toNat 0, i, h, Ev.step (f := fun _ => some (2 + x, 2 + y, l.set (0 : Int).toNat 0, i, h)) (fun k => ?_) (Ev.now _), by rw [List.length_set]; omega, by rw [List.length_set]; omega, hi⟩
      simp only [spec_l4Draw.l0, w3]
      rw [if_neg (by omega), if_pos (by omega)]
    | succ n ih =>
      intro l j i h hj hjn hlen hi
      obtain ⟨z, i3, h3, e3, _, g3⟩ := l1Int_ex b i h [0, 0, 0, 0, 1, 2] (by simp) hi hb
      obtain ⟨l', i', h', hE, c1, c2, c3⟩ := ih (l ++ [z]) (j + 1) i3 h3 (by omega) (by omega) (by rw [List.length_append, List.length_singleton]; omega) g3
      refine ⟨l', i', h', Ev.step (fun k => ?_) hE, c1, c2, c3⟩
      simp only [spec_l4Draw.l0, w3, e3, Option.bind_some]
      rw [if_pos (by omega), if_pos (by omega), wrapS (x := j + 1) (by omega) (by omega)]
  obtain ⟨l', i', h', hE, c1, c2, c3⟩ := key ((2 + x) * (2 + y)).toNat [] 0 i2 h2 (by omega) (by omega) rfl g2
  refine ⟨2 + x, 2 + y, l', i', h', ?_, ⟨by omega, by omega⟩, ⟨by omega, by omega⟩, c1, c2, c3⟩
  rw [e1]
  simp only [Option.bind_some, e2, w1, w2]
  exact hE
theorem l4Any_ex (b : List Int) (i h : Int) (hi : 0 ≤ i) (hb : b.length ≤ 1048576) : ∃ w hh l i' h', Ev (fun k => spec_l4Any.f k b i h) (w, hh, l, i', h') ∧ (-9223372036854775808 ≤ w ∧ w ≤ 9223372036854775807) ∧ l.length ≤ 30 ∧ 0 ≤ i' := by
  unfold spec_l4Any.f
  obtain ⟨w, hh, l, i1, h1, hE, bw, bh, bl, bl2, g1⟩ := l4Draw_ex b i h hi hb
  obtain ⟨x, i2, h2, e2, _, b2, g2⟩ := l1Below_ex b i1 h1 14 g1 hb
  obtain ⟨y, i3, h3, e3, b3, g3⟩ := l4Raw_ex b i2 h2 g2 hb
  obtain ⟨z, i4, h4, e4, b4, g4⟩ := l1Int_ex b i2 h2 [(-1), 2, 3] (by simp) g2 hb
  by_cases c0 : x = 0
  · refine ⟨y, hh, l, i3, h3, Ev.bind hE ?_, b3, bl2, g3⟩
    simp only [e2, Option.bind_some, if_pos c0, e3]
    exact Ev.now _
  by_cases c1 : x = 1
  · refine ⟨w, y, l, i3, h3, Ev.bind hE ?_, by omega, bl2, g3⟩
    simp only [e2, Option.bind_some, if_neg c0, if_pos c1, e3]
    exact Ev.now _
  by_cases c2 : x = 2
  · refine ⟨w, hh, l.set (0 : Int).toNat z, i4, h4, Ev.bind hE ?_, by omega, by rw [List.length_set]; exact bl2, g4⟩
    simp only [e2, Option.bind_some, if_neg c0, if_neg c1, if_pos c2, e4, if_pos (show (0 : Int) < (l.length : Int) from by omega)]
    exact Ev.now _
  by_cases c3 : x = 3
  · refine ⟨w, hh, l.drop (1 : Int).toNat, i2, h2, Ev.bind hE ?_, by omega, by rw [List.length_drop]; omega, g2⟩
    simp only [e2, Option.bind_some, if_neg c0, if_neg c1, if_neg c2, if_pos c3, if_pos (show (1 : Int) ≤ (l.length : Int) from by omega)]
    exact Ev.now _
  · refine ⟨w, hh, l, i2, h2, Ev.bind hE ?_, by omega, bl2, g2⟩
    simp only [e2, Option.bind_some, if_neg c0, if_neg c1, if_neg c2, if_neg c3]
    exact Ev.now _

theorem DrawIsCell_ex (b : List Int) (hb : b.length ≤ 1048576) : ∃ w h l n, Ev (fun k => spec_DrawIsCell.f k b) (w, h, l, n) ∧ (-9223372036854775808 ≤ w ∧ w ≤ 9223372036854775807) ∧ l.length ≤ 30 := by
  unfold spec_DrawIsCell.f
  obtain ⟨h0, hN⟩ := l1New_ex b hb
  obtain ⟨w, hh, l, i1, h1, hE, bw, bl, g1⟩ := l4Any_ex b 0 h0 (by omega) hb
  obtain ⟨x, i2, h2, e2, _, _, g2⟩ := l1Below_ex b i1 h1 30 g1 hb
  obtain ⟨y, i3, h3, e3, _, _, g3⟩ := l1Below_ex b i2 h2 30 g2 hb
  obtain ⟨z, i4, h4, e4, _, g4⟩ := l4Raw_ex b i3 h3 g3 hb
  obtain ⟨v, i5, h5, e5, _, g5⟩ := l1Int_ex b i4 h4 [x, y, 0, z] (by simp) g4 hb
  refine ⟨w, hh, l, v, Ev.bind hN (Ev.bind hE ?_), bw, bl⟩
  simp only [e2, e3, e4, e5, Option.bind_some]
  exact Ev.now _
theorem DrawApart_ex (b : List Int) (hb : b.length ≤ 1048576) : ∃ w h l n m, Ev (fun k => spec_DrawApart.f k b) (w, h, l, n, m) ∧ l.length ≤ 30 := by
  unfold spec_DrawApart.f
  obtain ⟨w, h, l, n, hE, bw, bl⟩ := DrawIsCell_ex b hb
  obtain ⟨h0, hN⟩ := l1New_ex b hb
  obtain ⟨x, i2, h2, e2, _, _, g2⟩ := l1Below_ex b 0 h0 30 (by omega) hb
  refine ⟨w, h, l, n, x, Ev.bind hE (Ev.bind hN ?_), bl⟩
  simp only [e2, Option.bind_some]
  exact Ev.now _

theorem laws_ascends_ev (l : List Int) (hl : l.length ≤ 64) (ha : l.Pairwise (· < ·)) : Ev (fun k => laws_ascends.f k l) true := by
  have key : ∀ (d : Nat) (i : Int), 1 ≤ i → i + d ≥ l.length → i ≤ 65 → Ev (fun k => laws_ascends.l0 k l i) true := by
    intro d
    induction d with
    | zero =>
      intro i h0 hi _
      refine Ev.step (f := fun _ => some true) (fun k => ?_) (Ev.now _)
      simp only [laws_ascends.l0]
      rw [if_neg (by omega)]
    | succ d ih =>
      intro i h0 hi h65
      by_cases c : i < (l.length : Int)
      · have hlt : rd l (i - 1) < rd l i := by
          have := List.pairwise_iff_getElem.1 ha (i - 1).toNat i.toNat (by omega) (by omega) (by omega)
          simp only [rd, List.getD_eq_getElem?_getD, List.getElem?_eq_getElem (show i.toNat < l.length by omega), List.getElem?_eq_getElem (show (i - 1).toNat < l.length by omega), Option.getD_some]
          exact this
        refine Ev.step (fun k => ?_) (ih (i + 1) (by omega) (by omega) (by omega))
        simp only [laws_ascends.l0]
        rw [wrapS (x := i - 1) (by omega) (by omega), wrapS (x := i + 1) (by omega) (by omega), if_pos c, if_pos (by omega), if_pos (by omega), if_pos (by omega), if_neg (by omega)]
      · refine Ev.step (f := fun _ => some true) (fun k => ?_) (Ev.now _)
        simp only [laws_ascends.l0]
        rw [if_neg c]
  exact key l.length 1 (by omega) (by omega) (by omega)
theorem laws_contains_ev (l : List Int) (x : Int) (hl : l.length ≤ 64) (hx : x ∈ l) : Ev (fun k => laws_contains.f k l x) true := by
  have key : ∀ (d : Nat) (i : Int), 0 ≤ i → i + d = l.length → x ∈ l.drop i.toNat → Ev (fun k => laws_contains.l0 k l x i) true := by
    intro d
    induction d with
    | zero =>
      intro i h0 hi hm
      rw [List.drop_eq_nil_of_le (by omega)] at hm
      simp at hm
    | succ d ih =>
      intro i h0 hi hm
      rw [drop_rd l i h0 (by omega)] at hm
      by_cases c : rd l i = x
      · refine Ev.step (f := fun _ => some true) (fun k => ?_) (Ev.now _)
        simp only [laws_contains.l0]
        rw [if_pos (by omega), if_pos h0, if_pos c]
      · refine Ev.step (fun k => ?_) (ih (i + 1) (by omega) (by omega) ?_)
        · simp only [laws_contains.l0]
          rw [wrapS (x := i + 1) (by omega) (by omega), if_pos (by omega), if_pos h0, if_neg c]
        · rcases List.mem_cons.1 hm with h1 | h1
          · exact absurd h1.symm c
          · exact h1
  exact key l.length 0 (by omega) (by omega) hx

theorem impl_allIn_ev (l : List Int) (hl : l.length ≤ 17592186044416) : Ev (fun k => impl_allIn.f k l 0 2) (okCells l) := by
  have key : ∀ (d : Nat) (i : Int), 0 ≤ i → i + d = l.length → Ev (fun k => impl_allIn.l0 k 0 2 l (l.length : Int) i) (okCells (l.drop i.toNat)) := by
    intro d
    induction d with
    | zero =>
      intro i h0 hi
      rw [List.drop_eq_nil_of_le (by omega)]
      refine Ev.step (f := fun _ => some true) (fun k => ?_) (Ev.now _)
      simp only [impl_allIn.l0]
      rw [if_neg (by omega)]
    | succ d ih =>
      intro i h0 hi
      have hi2 := ih (i + 1) (by omega) (by omega)
      rw [drop_rd l i h0 (by omega)]
      by_cases c : 0 ≤ rd l i ∧ rd l i ≤ 2
      · rw [show okCells (rd l i :: l.drop (i + 1).toNat) = okCells (l.drop (i + 1).toNat) from by simp [okCells, c]]
        refine Ev.step (f := fun k => impl_allIn.l0 k 0 2 l (l.length : Int) (i + 1)) (fun k => ?_) hi2
        simp only [impl_allIn.l0, impl_InRange_is, Option.bind_some, decide_eq_true c, if_true]
        rw [if_pos (by omega), if_pos h0, if_pos (by omega), wrapS (by omega) (by omega)]
      · rw [show okCells (rd l i :: l.drop (i + 1).toNat) = false from by simp [okCells, c]]
        refine Ev.step (f := fun _ => some false) (fun k => ?_) (Ev.now _)
        simp only [impl_allIn.l0, impl_InRange_is, Option.bind_some, decide_eq_false c, Bool.false_eq_true, if_false]
        rw [if_pos (by omega), if_pos h0, if_pos (by omega)]
  exact key l.length 0 (by omega) (by omega)
theorem impl_IsLand_ev (w h : Int) (l : List Int) (hl : l.length ≤ 17592186044416) : Ev (fun k => impl_IsLand.f k w h l) (isLand w h l) := by
  unfold impl_IsLand.f
  simp only [impl_InRange_is, Option.bind_some]
  by_cases c1 : 1 ≤ w ∧ w ≤ 8
  · by_cases c2 : 1 ≤ h ∧ h ≤ 8
    · simp only [decide_eq_true c1, decide_eq_true c2, if_true, wrap_wh c1 c2]
      by_cases c3 : (l.length : Int) = w * h
      · simp only [if_pos c3]
        rw [show isLand w h l = okCells l from by simp [isLand, c1, c2, c3]]
        exact Ev.bind (impl_allIn_ev l hl) (Ev.now _)
      · simp only [if_neg c3]
        rw [show isLand w h l = false from by simp [isLand, c3]]
        exact Ev.now _
    · simp only [decide_eq_true c1, decide_eq_false c2, if_true, Bool.false_eq_true, if_false]
      rw [show isLand w h l = false from by simp only [isLand, c2, false_and, and_false, decide_false, Bool.false_and]]
      exact Ev.now _
  · simp only [decide_eq_false c1, Bool.false_eq_true, if_false]
    rw [show isLand w h l = false from by simp only [isLand, c1, false_and, decide_false, Bool.false_and]]
    exact Ev.now _

theorem impl_IsCell_ev (w h : Int) (l : List Int) (n : Int) (hl : l.length ≤ 17592186044416) : Ev (fun k => impl_IsCell.f k w h l n) (isCell w h l n) := by
  unfold impl_IsCell.f
  refine Ev.bind (impl_IsLand_ev w h l hl) ?_
  try dsimp only
  cases e : isLand w h l with
  | false =>
    rw [show isCell w h l n = false from by simp [isCell, e]]
    simp only [Bool.false_eq_true, if_false]
    exact Ev.now _
  | true =>
    rw [show isCell w h l n = decide (0 ≤ n ∧ n ≤ (l.length : Int) - 1) from by simp [isCell, e]]
    simp only [if_true, impl_InRange_is, Option.bind_some, wrapS (x := (l.length : Int) - 1) (by omega) (by omega)]
    exact Ev.now _

theorem impl_IsOpen_ev (w h : Int) (l : List Int) (n : Int) (hl : l.length ≤ 17592186044416) : Ev (fun k => impl_IsOpen.f k w h l n) (isOpen w h l n) := by
  unfold impl_IsOpen.f
  refine Ev.bind (impl_IsCell_ev w h l n hl) ?_
  try dsimp only
  cases e : isCell w h l n with
  | false =>
    rw [show isOpen w h l n = false from by simp [isOpen, e]]
    simp only [Bool.false_eq_true, if_false]
    exact Ev.now _
  | true =>
    obtain ⟨h0, h1⟩ := isCell_true e
    rw [show isOpen w h l n = (rd l n != 2) from by simp [isOpen, e]]
    simp only [if_true, if_pos h0, if_pos h1]
    exact Ev.now _

theorem impl_Apart_ev (w h : Int) (l : List Int) (a b : Int) (hl : l.length ≤ 17592186044416) : Ev (fun k => impl_Apart.f k w h l a b) (apart w h l a b) := by
  have jt : Ev (fun k => impl_Apart.j0 k a b true w h l) (-1) := by
    refine Ev.step (f := fun _ => some (-1)) (fun k => ?_) (Ev.now _)
    simp only [impl_Apart.j0, if_true]
  unfold impl_Apart.f
  refine Ev.bind (impl_IsCell_ev w h l a hl) ?_
  try dsimp only
  cases ea : isCell w h l a with
  | false =>
    rw [show apart w h l a b = -1 from by simp [apart, ea]]
    simp only [Bool.false_eq_true, if_false]
    exact jt
  | true =>
    simp only [if_true]
    refine Ev.bind (impl_IsCell_ev w h l b hl) ?_
    try dsimp only
    cases eb : isCell w h l b with
    | false =>
      rw [show apart w h l a b = -1 from by simp [apart, eb]]
      exact jt
    | true =>
      obtain ⟨w1, w2, a1, a2, a3, a4, a5, a6⟩ := cell_bounds ea
      obtain ⟨_, _, b1, b2, b3, b4, b5, b6⟩ := cell_bounds eb
      rw [show apart w h l a b = absI (a % w - b % w) + absI (a / w - b / w) from by simp [apart, ea, eb]]
      refine Ev.step (f := fun _ => some (absI (a % w - b % w) + absI (a / w - b / w))) (fun k => ?_) (Ev.now _)
      have e1 := Int.tmod_eq_emod_of_nonneg a1 (b := w)
      have e2 := Int.tmod_eq_emod_of_nonneg b1 (b := w)
      have e3 := Int.tdiv_eq_ediv_of_nonneg a1 (b := w)
      have e4 := Int.tdiv_eq_ediv_of_nonneg b1 (b := w)
      simp only [impl_Apart.j0, Bool.not_true, Bool.false_eq_true, if_false, impl_size.f, Option.bind_some, e1, e2, e3, e4]
      rw [if_neg (by omega)]
      generalize a % w = p at *
      generalize b % w = q at *
      generalize a / w = r at *
      generalize b / w = s at *
      rw [wrapS (x := p - q) (by omega) (by omega), wrapS (x := r) (by omega) (by omega), wrapS (x := s) (by omega) (by omega), wrapS (x := r - s) (by omega) (by omega), wrapS (x := -(p - q)) (by omega) (by omega), wrapS (x := -(r - s)) (by omega) (by omega)]
      have f1 : mx (p - q) (-(p - q)) = absI (p - q) := by unfold mx absI; split <;> split <;> omega
      have f2 : mx (r - s) (-(r - s)) = absI (r - s) := by unfold mx absI; split <;> split <;> omega
      rw [f1, f2]
      have g1 : 0 ≤ absI (p - q) ∧ absI (p - q) ≤ 100 := by unfold absI; split <;> omega
      have g2 : 0 ≤ absI (r - s) ∧ absI (r - s) ≤ 100 := by unfold absI; split <;> omega
      rw [wrapS (by omega) (by omega)]

theorem compact_asc (l : List Int) (h : l.Pairwise (· < ·)) : Go.Lib.compact l = l := by
  refine Go.Lib.compact_all l (fun j hj => ?_)
  simp only [Go.Lib.keeps, decide_eq_true_eq]
  by_cases h0 : j = 0
  · exact Or.inl h0
  · refine Or.inr ?_
    have hlt := List.pairwise_iff_getElem.1 h (j - 1) j (by omega) hj (by omega)
    rw [getElem!_pos l.toArray j (by simpa using hj), getElem!_pos l.toArray (j - 1) (by simp; omega)]
    simp only [List.getElem_toArray]
    omega
theorem compact_two (x : Int) : Go.Lib.compact [x, x] = [x] := by
  simp [Go.Lib.compact, Go.Lib.compactUpTo, Go.Lib.keeps, List.range_succ]
theorem compact_four (x y : Int) (h : x ≠ y) : Go.Lib.compact [x, x, y, y] = [x, y] := by
  simp [Go.Lib.compact, Go.Lib.compactUpTo, Go.Lib.keeps, List.range_succ, h, Ne.symm h]
def nearOk (w h : Int) (l : List Int) (n m : Int) : Bool := isOpen w h l m && (apart w h l n m == 1)
theorem impl_Near_loop (w h : Int) (l : List Int) (n : Int) (hl : l.length ≤ 64) (ys : List Int) (hys : ys.length ≤ 4) : ∀ (d : Nat) (o : List Int) (i : Int), 0 ≤ i → i + d = ys.length → o.length ≤ i.toNat → Ev (fun k => impl_Near.l0 k n o ys (ys.length : Int) i w h l) (Go.Lib.compact (o ++ (ys.drop i.toNat).filter (nearOk w h l n))) := by
  intro d
  induction d with
  | zero =>
    intro o i h0 hi ho
    rw [List.drop_eq_nil_of_le (by omega), List.filter_nil, List.append_nil]
    refine Ev.step (f := fun _ => some (Go.Lib.compact o)) (fun k => ?_) (Ev.now _)
    simp only [impl_Near.l0, slices_Compact_int_int.f, Option.bind_some]
    rw [if_neg (by omega)]
  | succ d ih =>
    intro o i h0 hi ho
    have hw : wrap64 (i + 1) = i + 1 := wrapS (by omega) (by omega)
    rw [drop_rd ys i h0 (by omega), List.filter_cons]
    by_cases c1 : isOpen w h l (rd ys i) = true
    · by_cases c2 : apart w h l n (rd ys i) = 1
      · rw [if_pos (by simp [nearOk, c1, c2])]
        have hi2 := ih (o ++ [rd ys i]) (i + 1) (by omega) (by omega) (by simp; omega)
        rw [List.append_assoc, List.singleton_append] at hi2
        refine Ev.step (f := fun k => (impl_IsOpen.f k w h l (rd ys i)).bind fun t => if t = true then (impl_Apart.f k w h l n (rd ys i)).bind fun t2 => (if t2 = 1 then impl_Near.l0 k n (o ++ [rd ys i]) ys (ys.length : Int) (i + 1) w h l else impl_Near.l0 k n o ys (ys.length : Int) (i + 1) w h l) else impl_Near.l0 k n o ys (ys.length : Int) (i + 1) w h l) (fun k => ?_) (Ev.bind (impl_IsOpen_ev w h l _ (by omega)) ?_)
        · simp only [impl_Near.l0, hw]
          rw [if_pos (by omega), if_pos h0, if_pos (by omega)]
          simp only [if_pos (show o.length < 17592186044416 from by omega)]
        · rw [c1]
          simp only [if_true]
          refine Ev.bind (impl_Apart_ev w h l n _ (by omega)) ?_
          rw [c2]
          simp only [if_true]
          exact hi2
      · rw [if_neg (by simp [nearOk, c2])]
        have hi2 := ih o (i + 1) (by omega) (by omega) (by omega)
        refine Ev.step (f := fun k => (impl_IsOpen.f k w h l (rd ys i)).bind fun t => if t = true then (impl_Apart.f k w h l n (rd ys i)).bind fun t2 => (if t2 = 1 then impl_Near.l0 k n (o ++ [rd ys i]) ys (ys.length : Int) (i + 1) w h l else impl_Near.l0 k n o ys (ys.length : Int) (i + 1) w h l) else impl_Near.l0 k n o ys (ys.length : Int) (i + 1) w h l) (fun k => ?_) (Ev.bind (impl_IsOpen_ev w h l _ (by omega)) ?_)
        · simp only [impl_Near.l0, hw]
          rw [if_pos (by omega), if_pos h0, if_pos (by omega)]
          simp only [if_pos (show o.length < 17592186044416 from by omega)]
        · rw [c1]
          simp only [if_true]
          refine Ev.bind (impl_Apart_ev w h l n _ (by omega)) ?_
          simp only [if_neg c2]
          exact hi2
    · rw [if_neg (by simp [nearOk, c1])]
      have hi2 := ih o (i + 1) (by omega) (by omega) (by omega)
      rw [Bool.not_eq_true] at c1
      refine Ev.step (f := fun k => (impl_IsOpen.f k w h l (rd ys i)).bind fun t => if t = true then (impl_Apart.f k w h l n (rd ys i)).bind fun t2 => (if t2 = 1 then impl_Near.l0 k n (o ++ [rd ys i]) ys (ys.length : Int) (i + 1) w h l else impl_Near.l0 k n o ys (ys.length : Int) (i + 1) w h l) else impl_Near.l0 k n o ys (ys.length : Int) (i + 1) w h l) (fun k => ?_) (Ev.bind (impl_IsOpen_ev w h l _ (by omega)) ?_)
      · simp only [impl_Near.l0, hw]
        rw [if_pos (by omega), if_pos h0, if_pos (by omega)]
        simp only [if_pos (show o.length < 17592186044416 from by omega)]
      · rw [c1]
        simp only [Bool.false_eq_true, if_false]
        exact hi2
/-- The four that are tried, those that are beside, each once. -/
theorem near_filter {w h : Int} {l : List Int} {n : Int} (hc : isCell w h l n = true) : Go.Lib.compact ([n - w, n - 1, n + 1, n + w].filter (nearOk w h l n)) = near w l n := by
  have hl := isCell_land hc
  obtain ⟨hw, hh, hlen, h64, _⟩ := isLand_true hl
  obtain ⟨h0, h1⟩ := isCell_true hc
  have m1 := Int.emod_nonneg n (show w ≠ 0 by omega)
  have m2 : n % w ≤ n := by
    have := Int.emod_add_mul_ediv n w
    have := Int.mul_nonneg (show 0 ≤ w by omega) (Int.ediv_nonneg h0 (show 0 ≤ w by omega))
    omega
  have ok : ∀ m, nearOk w h l n m = true ↔ (0 ≤ m ∧ m < l.length ∧ rd l m ≠ 2) ∧ step w n m = 1 := by
    intro m
    unfold nearOk
    rw [Bool.and_eq_true, isOpen_iff hl, beq_iff_eq]
    constructor
    · rintro ⟨ho, ha⟩
      exact ⟨ho, by rw [← apart_step hc (isCell_mk hl ho.1 ho.2.1)]; exact ha⟩
    · rintro ⟨ho, ha⟩
      exact ⟨ho, by rw [apart_step hc (isCell_mk hl ho.1 ho.2.1)]; exact ha⟩
  by_cases w1 : w = 1
  · subst w1
    have hA : nearOk 1 h l n (n - 1) = decide ((1 : Int) ≤ n ∧ rd l (n - 1) ≠ 2) := by
      rw [Bool.eq_iff_iff, ok, decide_eq_true_eq]
      have := step_up 1 n hw
      constructor
      · rintro ⟨⟨a, b, c⟩, _⟩; exact ⟨by omega, c⟩
      · rintro ⟨a, c⟩; exact ⟨⟨by omega, by omega, c⟩, this⟩
    have hD : nearOk 1 h l n (n + 1) = decide (n + 1 < (l.length : Int) ∧ rd l (n + 1) ≠ 2) := by
      rw [Bool.eq_iff_iff, ok, decide_eq_true_eq]
      have := step_down 1 n hw
      constructor
      · rintro ⟨⟨a, b, c⟩, _⟩; exact ⟨b, c⟩
      · rintro ⟨a, c⟩; exact ⟨⟨by omega, a, c⟩, this⟩
    unfold near
    rw [if_neg (c := 0 < n % 1 ∧ rd l (n - 1) ≠ 2) (by omega), if_neg (c := n % 1 < 1 - 1 ∧ rd l (n + 1) ≠ 2) (by omega)]
    simp only [List.filter_cons, List.filter_nil, hA, hD]
    by_cases cA : (1 : Int) ≤ n ∧ rd l (n - 1) ≠ 2 <;> by_cases cD : n + 1 < (l.length : Int) ∧ rd l (n + 1) ≠ 2
    · simp only [decide_eq_true cA, decide_eq_true cD, if_true, if_pos cA, if_pos cD]
      rw [compact_four _ _ (by omega)]
      rfl
    · simp only [decide_eq_true cA, decide_eq_false cD, if_true, if_pos cA, if_neg cD, Bool.false_eq_true, if_false]
      rw [compact_two]
      rfl
    · simp only [decide_eq_false cA, decide_eq_true cD, if_true, if_neg cA, if_pos cD, Bool.false_eq_true, if_false]
      rw [compact_two]
      rfl
    · simp only [decide_eq_false cA, decide_eq_false cD, if_neg cA, if_neg cD, Bool.false_eq_true, if_false]
      rfl
  · have hA : nearOk w h l n (n - w) = decide (w ≤ n ∧ rd l (n - w) ≠ 2) := by
      rw [Bool.eq_iff_iff, ok, decide_eq_true_eq]
      have := step_up w n hw
      constructor
      · rintro ⟨⟨a, b, c⟩, _⟩; exact ⟨by omega, c⟩
      · rintro ⟨a, c⟩; exact ⟨⟨by omega, by omega, c⟩, this⟩
    have hB : nearOk w h l n (n - 1) = decide (0 < n % w ∧ rd l (n - 1) ≠ 2) := by
      rw [Bool.eq_iff_iff, ok, decide_eq_true_eq, step_left w n hw]
      constructor
      · rintro ⟨⟨a, b, c⟩, d⟩; exact ⟨by omega, c⟩
      · rintro ⟨a, c⟩; exact ⟨⟨by omega, by omega, c⟩, Or.inl a⟩
    have hC : nearOk w h l n (n + 1) = decide (n % w < w - 1 ∧ rd l (n + 1) ≠ 2) := by
      rw [Bool.eq_iff_iff, ok, decide_eq_true_eq, step_right w n hw]
      constructor
      · rintro ⟨⟨a, b, c⟩, d⟩; exact ⟨by omega, c⟩
      · rintro ⟨a, c⟩; exact ⟨⟨by omega, mod_len hl n h0 h1 a, c⟩, Or.inl a⟩
    have hD : nearOk w h l n (n + w) = decide (n + w < (l.length : Int) ∧ rd l (n + w) ≠ 2) := by
      rw [Bool.eq_iff_iff, ok, decide_eq_true_eq]
      have := step_down w n hw
      constructor
      · rintro ⟨⟨a, b, c⟩, _⟩; exact ⟨b, c⟩
      · rintro ⟨a, c⟩; exact ⟨⟨by omega, a, c⟩, this⟩
    have e : [n - w, n - 1, n + 1, n + w].filter (nearOk w h l n) = near w l n := by
      unfold near
      simp only [List.filter_cons, List.filter_nil, hA, hB, hC, hD, decide_eq_true_eq]
      split <;> split <;> split <;> split <;> rfl
    rw [e]
    exact compact_asc _ (near_asc w l n hw.1)
theorem impl_Near_ev (w h : Int) (l : List Int) (n : Int) (hl : l.length ≤ 1048576) (hw : -9223372036854775808 ≤ w ∧ w ≤ 9223372036854775807) : Ev (fun k => impl_Near.f k w h l n) (if isCell w h l n = true then near w l n else []) := by
  unfold impl_Near.f
  refine Ev.bind (impl_IsCell_ev w h l n (by omega)) ?_
  by_cases hc : isCell w h l n = true
  · have hld := isCell_land hc
    obtain ⟨hw8, hh, hlen, h64, _⟩ := isLand_true hld
    obtain ⟨h0, h1⟩ := isCell_true hc
    rw [hc]
    simp only [if_true, Option.bind_some]
    rw [wrapS (x := n - w) (by omega) (by omega), wrapS (x := n - 1) (by omega) (by omega), wrapS (x := n + 1) (by omega) (by omega), wrapS (x := n + w) (by omega) (by omega)]
    have hh := impl_Near_loop w h l n h64 [n - w, n - 1, n + 1, n + w] (by simp) 4 [] 0 (by omega) (by simp) (by simp)
    rw [show (0 : Int).toNat = 0 from rfl, List.drop_zero, List.nil_append, near_filter hc] at hh
    exact hh
  · rw [Bool.not_eq_true] at hc
    rw [hc]
    simp only [Bool.false_eq_true, if_false]
    exact Ev.now _

theorem impl_distances_l3 (w h : Int) (l : List Int) (hl : isLand w h l = true) (c : Int) (ys : List Int) (hys : ∀ x ∈ ys, 0 ≤ x ∧ x < l.length) (hyl : ys.length ≤ 4) (r : List Int) : ∀ (n : Nat) (d q : List Int) (i : Int), 0 ≤ i → i + n = ys.length → BInv l d → (0 ≤ c ∧ c < l.length ∧ 0 ≤ rd d c) → q.length + neg d ≤ 1000 → Ev (fun k => impl_distances.l2 k (vis c (ys.drop i.toNat) d).1 (q ++ (vis c (ys.drop i.toNat) d).2) w h l) r → Ev (fun k => impl_distances.l3 k d q c ys (ys.length : Int) i w h l) r := by
  obtain ⟨_, _, _, h64, _⟩ := isLand_true hl
  intro n
  induction n with
  | zero =>
    intro d q i h0 hi hd hc hq hr
    rw [List.drop_eq_nil_of_le (by omega)] at hr
    simp only [vis, List.append_nil] at hr
    refine Ev.step (f := fun k => impl_distances.l2 k d q w h l) (fun k => ?_) hr
    simp only [impl_distances.l3]
    rw [if_neg (by omega)]
  | succ n ih =>
    intro d q i h0 hi hd hc hq hr
    rw [drop_rd ys i h0 (by omega)] at hr
    have hx := hys (rd ys i) (rd_in ys i h0 (by omega))
    have hw : wrap64 (i + 1) = i + 1 := wrapS (by omega) (by omega)
    have hlen := hd.1
    by_cases hn : rd d (rd ys i) < 0
    · obtain ⟨b1, b2, b3, b4⟩ := binv_set hd hc hx.1 hx.2 hn
      have hc' := b4 c hc.1 hc.2.2
      have hbc := hd.2 c hc.1
      have hw2 : wrap64 (rd d c + 1) = rd d c + 1 := wrapS (by omega) (by omega)
      simp only [vis, if_pos hn] at hr
      refine Ev.step (f := fun k => impl_distances.l3 k (d.set (rd ys i).toNat (rd d c + 1)) (q ++ [rd ys i]) c ys (ys.length : Int) (i + 1) w h l) (fun k => ?_) (ih _ _ _ (by omega) (by omega) b1 ⟨hc.1, hc.2.1, by rw [hc']; exact hc.2.2⟩ (by rw [List.length_append, List.length_singleton]; omega) ?_)
      · simp only [impl_distances.l3, hw, hw2]
        rw [if_pos (by omega), if_pos h0, if_pos (by omega), if_pos hx.1, if_pos (by omega), if_pos hn, if_pos hc.1, if_pos (by omega), if_pos (by omega)]
      · rw [List.append_assoc, List.singleton_append]
        exact hr
    · simp only [vis, if_neg hn] at hr
      refine Ev.step (f := fun k => impl_distances.l3 k d q c ys (ys.length : Int) (i + 1) w h l) (fun k => ?_) (ih _ _ _ (by omega) (by omega) hd hc hq hr)
      simp only [impl_distances.l3, hw]
      rw [if_pos (by omega), if_pos h0, if_pos (by omega), if_pos hx.1, if_pos (by omega), if_neg hn]
theorem impl_distances_l2 (w h : Int) (l : List Int) (hl : isLand w h l = true) : ∀ (f : Nat) (d q : List Int), BInv l d → QInv l d q → q.length + neg d < f → f ≤ 900 → Ev (fun k => impl_distances.l2 k d q w h l) (bfs w l f d q) := by
  obtain ⟨hw8, _, _, h64, _⟩ := isLand_true hl
  intro f
  induction f with
  | zero => intro d q _ _ h _; omega
  | succ f ih =>
    intro d q hd hq hf h9
    cases q with
    | nil =>
      refine Ev.step (f := fun _ => some d) (fun k => ?_) (Ev.now _)
      simp [impl_distances.l2]
    | cons c q =>
      obtain ⟨i1, i2, i3⟩ := qinv_next hl hd hq
      have hc := hq c List.mem_cons_self
      rw [List.length_cons] at hf
      have hn := impl_Near_ev w h l c (by omega) (by omega)
      rw [if_pos (isCell_mk hl hc.1 hc.2.1)] at hn
      refine Ev.step (f := fun k => (impl_Near.f k w h l c).bind fun t => impl_distances.l3 k d q c t (t.length : Int) 0 w h l) (fun k => ?_) (Ev.bind hn ?_)
      · have e1 : ((c :: q).length : Int) > 0 := by rw [List.length_cons]; omega
        have e2 : (1 : Int) ≤ ((c :: q).length : Int) := by rw [List.length_cons]; omega
        simp only [impl_distances.l2]
        rw [if_pos e1, if_pos e1, if_pos e2]
        rfl
      · have h4 := near_length w l c
        refine impl_distances_l3 w h l hl c (near w l c) (near_in hl hc.1 hc.2.1) h4 _ (near w l c).length d q 0 (by omega) (by omega) hd hc (by omega) ?_
        simp only [show (0 : Int).toNat = 0 from rfl, List.drop_zero]
        exact ih _ _ i1 i2 (by rw [List.length_append]; omega) (by omega)
theorem impl_distances_ev (w h : Int) (l : List Int) (a : Int) (ho : isOpen w h l a = true) : Ev (fun k => impl_distances.f k w h l [a]) (dist w l a) := by
  have hl := isOpen_land ho
  obtain ⟨hw8, _, _, h64, _⟩ := isLand_true hl
  obtain ⟨h0, h1, h2⟩ := (isOpen_iff hl a).1 ho
  have key : ∀ (n : Nat) (i : Int), 0 ≤ i → i + n = l.length → Ev (fun k => impl_distances.l0 k [a] (List.replicate i.toNat (-1)) (l.length : Int) i w h l) (dist w l a) := by
    intro n
    induction n with
    | zero =>
      intro i hi hs
      have hr : rd (List.replicate i.toNat (-1)) a = -1 := by
        show (List.replicate i.toNat (-1 : Int)).getD a.toNat 0 = -1
        rw [List.getD_eq_getElem?_getD, List.getElem?_replicate, if_pos (by omega)]
        rfl
      have hwr : wrap64 (0 + 1) = 1 := wrapS (by omega) (by omega)
      obtain ⟨i1, i2, i3⟩ := dist0_inv h0 h1
      refine Ev.step (f := fun k => impl_distances.l1 k (List.replicate i.toNat (-1)) [] [a] 1 0 w h l) (fun k => ?_) ?_
      · simp only [impl_distances.l0]
        rw [if_neg (by omega)]
        rfl
      refine Ev.step (f := fun k => (impl_IsOpen.f k w h l a).bind fun t => if t = true then impl_distances.l1 k (dist0 l a) [a] [a] 1 1 w h l else impl_distances.l1 k (List.replicate i.toNat (-1)) [] [a] 1 1 w h l) (fun k => ?_) (Ev.bind (impl_IsOpen_ev w h l a (by omega)) ?_)
      · have e0 : rd [a] 0 = a := rfl
        simp only [impl_distances.l1, e0, hwr, hr, List.length_replicate, List.length_singleton, List.length_nil, List.nil_append]
        rw [if_pos (by omega), if_pos (by omega), if_pos (by omega)]
        have e3 : i.toNat = l.length := by omega
        simp only [if_pos h0, if_pos (show (-1 : Int) < 0 from by omega), if_pos (show (0 : Nat) < 17592186044416 from by omega), e3, if_pos h1, dist0]
      · rw [ho]
        simp only [if_true]
        refine Ev.step (f := fun k => impl_distances.l2 k (dist0 l a) [a] w h l) (fun k => ?_) (impl_distances_l2 w h l hl (l.length + 1) (dist0 l a) [a] i1 i2 (by simp; omega) (by omega))
        simp only [impl_distances.l1]
        rw [if_neg (by omega)]
    | succ n ih =>
      intro i hi hs
      have hwr : wrap64 (i + 1) = i + 1 := wrapS (by omega) (by omega)
      have hh := ih (i + 1) (by omega) (by omega)
      rw [show (i + 1).toNat = i.toNat + 1 from by omega, List.replicate_succ'] at hh
      refine Ev.step (f := fun k => impl_distances.l0 k [a] (List.replicate i.toNat (-1) ++ [-1]) (l.length : Int) (i + 1) w h l) (fun k => ?_) hh
      simp only [impl_distances.l0, hwr, List.length_replicate]
      rw [if_pos (by omega), if_pos (by omega)]
  unfold impl_distances.f
  exact key l.length 0 (by omega) (by omega)

theorem impl_Days_ev (w h : Int) (l : List Int) (a b : Int) (hl : l.length ≤ 1048576) : Ev (fun k => impl_Days.f k w h l a b) (days w h l a b) := by
  unfold impl_Days.f days
  refine Ev.bind (impl_IsOpen_ev w h l a (by omega)) ?_
  by_cases ha : isOpen w h l a = true
  · rw [ha]
    simp only [if_true]
    refine Ev.bind (impl_IsOpen_ev w h l b (by omega)) ?_
    by_cases hb : isOpen w h l b = true
    · rw [hb]
      simp only [if_true, and_self]
      refine Ev.bind (impl_distances_ev w h l a ha) ?_
      have hld := isOpen_land ha
      obtain ⟨a0, a1, _⟩ := (isOpen_iff hld a).1 ha
      obtain ⟨b0, b1, _⟩ := (isOpen_iff hld b).1 hb
      rw [if_pos b0, if_pos (by rw [dist_length hld a0 a1]; exact b1)]
      exact Ev.now _
    · simp only [hb, Bool.false_eq_true, if_false, and_false]
      exact Ev.now _
  · simp only [ha, Bool.false_eq_true, if_false, false_and]
    exact Ev.now _

theorem impl_WayTo_l1 (w h : Int) (l : List Int) {b : Int} (hb : isOpen w h l b = true) {c : Int} (hc : Vd l (dist w l b) c) (o : List Int) (ho : o.length ≤ 1000) (ys : List Int) (hys : ∀ y ∈ ys, 0 ≤ y ∧ y < l.length) (hyl : ys.length ≤ 4) (r : List Int) : ∀ (n : Nat) (i : Int), 0 ≤ i → i + n = ys.length → Ev (fun k => impl_WayTo.l0 k b (dist w l b) (o ++ [nx (dist w l b) c (ys.drop i.toNat) c]) (nx (dist w l b) c (ys.drop i.toNat) c) w h l) r → Ev (fun k => impl_WayTo.l1 k b (dist w l b) o c ys (ys.length : Int) i w h l) r := by
  have hl := isOpen_land hb
  obtain ⟨b0, b1, _⟩ := (isOpen_iff hl b).1 hb
  have hdl := dist_length hl b0 b1
  have hcr := hc.1
  intro n
  induction n with
  | zero =>
    intro i h0 hi hr
    rw [List.drop_eq_nil_of_le (by omega)] at hr
    simp only [nx] at hr
    refine Ev.step (fun k => ?_) hr
    simp only [impl_WayTo.l1]
    rw [if_neg (by omega), if_pos (by omega)]
  | succ n ih =>
    intro i h0 hi hr
    rw [drop_rd ys i h0 (by omega)] at hr
    have hx := hys (rd ys i) (rd_in ys i h0 (by omega))
    have hw : wrap64 (i + 1) = i + 1 := wrapS (by omega) (by omega)
    by_cases c1 : rd (dist w l b) (rd ys i) < rd (dist w l b) c
    · simp only [nx, if_pos c1] at hr
      refine Ev.step (fun k => ?_) hr
      simp only [impl_WayTo.l1]
      rw [if_pos (by omega), if_pos h0, if_pos (by omega), if_pos hx.1, if_pos (by omega), if_pos (by omega), if_pos (by omega), if_pos c1, if_pos (by omega)]
    · simp only [nx, if_neg c1] at hr
      refine Ev.step (fun k => ?_) (ih (i + 1) (by omega) (by omega) hr)
      simp only [impl_WayTo.l1, hw]
      rw [if_pos (by omega), if_pos h0, if_pos (by omega), if_pos hx.1, if_pos (by omega), if_pos (by omega), if_pos (by omega), if_neg c1]
theorem impl_WayTo_l0 (w h : Int) (l : List Int) {b : Int} (hb : isOpen w h l b = true) : ∀ (n : Nat) (c : Int) (o : List Int), Vd l (dist w l b) c → rd (dist w l b) c = n → o.length + n ≤ 1000 → Ev (fun k => impl_WayTo.l0 k b (dist w l b) o c w h l) (wayGo w l (dist w l b) n c o) := by
  have hl := isOpen_land hb
  obtain ⟨hw8, _, _, h64, _⟩ := isLand_true hl
  intro n
  induction n with
  | zero =>
    intro c o hc e ho
    have hcb : c = b := by
      by_cases hne : c = b
      · exact hne
      · obtain ⟨u, _, hu, he⟩ := dist_down hb hc hne
        have := hu.2
        omega
    refine Ev.step (f := fun _ => some o) (fun k => ?_) (Ev.now _)
    simp only [impl_WayTo.l0]
    rw [if_pos hcb]
  | succ n ih =>
    intro c o hc e ho
    have hne : c ≠ b := by
      intro hcb
      subst hcb
      have := dist_self hb
      omega
    obtain ⟨m1, m2, m3⟩ := nx_next hb hc hne
    have hn := impl_Near_ev w h l c (by omega) (by omega)
    rw [if_pos (isCell_mk hl hc.1.1 hc.1.2)] at hn
    refine Ev.step (f := fun k => (impl_Near.f k w h l c).bind fun t => impl_WayTo.l1 k b (dist w l b) o c t (t.length : Int) 0 w h l) (fun k => ?_) (Ev.bind hn ?_)
    · simp only [impl_WayTo.l0]
      rw [if_neg hne]
    · refine impl_WayTo_l1 w h l hb hc o (by omega) (near w l c) (near_in hl hc.1.1 hc.1.2) (near_length w l c) _ (near w l c).length 0 (by omega) (by omega) ?_
      simp only [show (0 : Int).toNat = 0 from rfl, List.drop_zero]
      exact ih _ _ m2 (by omega) (by rw [List.length_append, List.length_singleton]; omega)
theorem impl_WayTo_ev (w h : Int) (l : List Int) (a b : Int) (hl : l.length ≤ 1048576) : Ev (fun k => impl_WayTo.f k w h l a b) (wayTo w h l a b) := by
  unfold impl_WayTo.f wayTo
  refine Ev.bind (impl_Days_ev w h l a b hl) ?_
  by_cases hd : days w h l a b < 0
  · simp only [if_pos hd]
    exact Ev.now _
  · simp only [if_neg hd]
    obtain ⟨ha, hb, hv, h64⟩ := days_pos hd
    have h0 := hv.2
    refine Ev.bind (impl_distances_ev w h l b hb) ?_
    exact impl_WayTo_l0 w h l hb _ a [a] hv (by omega) (by rw [List.length_singleton]; omega)

def wayAt (w h : Int) (l s : List Int) (i : Int) : Bool := isOpen w h l (rd s i) && (decide (i ≤ 0) || (apart w h l (rd s (i - 1)) (rd s i) == 1))
def wayFrom (w h : Int) (l s : List Int) : Nat → Int → Bool
  | 0, _ => decide ((s.length : Int) > 0)
  | n + 1, i => wayAt w h l s i && wayFrom w h l s n (i + 1)

def place (x : Int) : List Int → Int → Int
  | [], _ => -1
  | v :: t, i => if v = x then i else place x t (i + 1)
theorem place_iff (x : Int) (l : List Int) : ∀ i, 0 ≤ i → (place x l i ≥ 0 ↔ x ∈ l) := by
  induction l with
  | nil => intro i _; simp [place]
  | cons v t ih =>
    intro i hi
    have := ih (i + 1) (by omega)
    unfold place
    by_cases e : v = x
    · rw [if_pos e]
      simp [e, hi]
    · rw [if_neg e, this]
      simp [Ne.symm e]
theorem impl_placeOf_loop (x : Int) (l : List Int) (hl : l.length ≤ 1048576) : ∀ (n : Nat) (i : Int), 0 ≤ i → i + n = l.length → Ev (fun k => impl_placeOf.l0 k x l (l.length : Int) i) (place x (l.drop i.toNat) i) := by
  intro n
  induction n with
  | zero =>
    intro i h0 hi
    rw [List.drop_eq_nil_of_le (by omega)]
    refine Ev.step (f := fun _ => some (-1)) (fun k => ?_) (Ev.now _)
    simp only [impl_placeOf.l0]
    rw [if_neg (by omega)]
  | succ n ih =>
    intro i h0 hi
    have hw : wrap64 (i + 1) = i + 1 := wrapS (by omega) (by omega)
    rw [drop_rd l i h0 (by omega)]
    by_cases c : rd l i = x
    · simp only [place, if_pos c]
      refine Ev.step (f := fun _ => some i) (fun k => ?_) (Ev.now _)
      simp only [impl_placeOf.l0]
      rw [if_pos (by omega), if_pos h0, if_pos (by omega), if_pos c]
    · simp only [place, if_neg c]
      refine Ev.step (f := fun k => impl_placeOf.l0 k x l (l.length : Int) (i + 1)) (fun k => ?_) (ih _ (by omega) (by omega))
      simp only [impl_placeOf.l0, hw]
      rw [if_pos (by omega), if_pos h0, if_pos (by omega), if_neg c]
theorem impl_has_ev (x : Int) (l : List Int) (hl : l.length ≤ 1048576) : Ev (fun k => impl_has.f k l x) (decide (x ∈ l)) := by
  unfold impl_has.f impl_placeOf.f
  refine Ev.bind (impl_placeOf_loop x l hl l.length 0 (by omega) (by omega)) ?_
  have := place_iff x (l.drop (0 : Int).toNat) 0 (by omega)
  rw [show (0 : Int).toNat = 0 from rfl, List.drop_zero] at this ⊢
  rw [decide_eq_decide.2 this]
  exact Ev.now _
def impl_way1 (w h : Int) (l s : List Int) (i : Int) (k : Nat) : Option Bool := (impl_IsOpen.f k w h l (rd s i)).bind fun t => if t = true then (if i > 0 then (if 0 ≤ i - 1 then (if i - 1 < (s.length : Int) then ((impl_Near.f k w h l (rd s (i - 1))).bind fun t2 => (impl_has.f k t2 (rd s i)).bind fun t3 => if t3 = true then impl_IsWay.l0 k s s (s.length : Int) (i + 1) w h l else some false) else none) else none) else impl_IsWay.l0 k s s (s.length : Int) (i + 1) w h l) else some false
theorem impl_IsWay_loop (w h : Int) (l s : List Int) (hl : l.length ≤ 1048576) (hs : s.length ≤ 1048576) (iw : -9223372036854775808 ≤ w ∧ w ≤ 9223372036854775807) : ∀ (n : Nat) (i : Int), 0 ≤ i → i + n = s.length → (i > 0 → isOpen w h l (rd s (i - 1)) = true) → Ev (fun k => impl_IsWay.l0 k s s (s.length : Int) i w h l) (wayFrom w h l s n i) := by
  intro n
  induction n with
  | zero =>
    intro i h0 hi _
    refine Ev.step (f := fun _ => some (decide ((s.length : Int) > 0))) (fun k => ?_) (Ev.now _)
    simp only [impl_IsWay.l0]
    rw [if_neg (by omega)]
  | succ n ih =>
    intro i h0 hi hpre
    have hw : wrap64 (i + 1) = i + 1 := wrapS (by omega) (by omega)
    have hw2 : wrap64 (i - 1) = i - 1 := wrapS (by omega) (by omega)
    have hh := fun hx => ih (i + 1) (by omega) (by omega) hx
    rw [show i + 1 - 1 = i from by omega] at hh
    refine Ev.step (f := fun k => (impl_way1 w h l s i k)) (fun k => ?_) ?_
    · simp only [impl_IsWay.l0, hw, hw2]
      rw [if_pos (by omega), if_pos h0, if_pos (by omega)]
      rfl
    · unfold impl_way1
      refine Ev.bind (impl_IsOpen_ev w h l (rd s i) (by omega)) ?_
      unfold wayFrom wayAt
      by_cases c1 : isOpen w h l (rd s i) = true
      · simp only [c1, if_true, Bool.true_and]
        by_cases c2 : i > 0
        · simp only [if_pos c2, if_pos (show 0 ≤ i - 1 from by omega), if_pos (show i - 1 < (s.length : Int) from by omega)]
          have hp := hpre c2
          have hld := isOpen_land hp
          obtain ⟨p0, p1, _⟩ := (isOpen_iff hld _).1 hp
          obtain ⟨q0, q1, _⟩ := (isOpen_iff hld _).1 c1
          have hn := impl_Near_ev w h l (rd s (i - 1)) (by omega) iw
          rw [if_pos (isCell_mk hld p0 p1)] at hn
          have h4 := near_length w l (rd s (i - 1))
          refine Ev.bind hn (Ev.bind (impl_has_ev (rd s i) (near w l (rd s (i - 1))) (by omega)) ?_)
          have hm : decide (rd s i ∈ near w l (rd s (i - 1))) = (apart w h l (rd s (i - 1)) (rd s i) == 1) := by
            rw [Bool.eq_iff_iff, decide_eq_true_eq, beq_iff_eq, mem_near hld p0 p1, apart_step (isCell_mk hld p0 p1) (isCell_mk hld q0 q1)]
            exact ⟨fun hx => hx.2, fun hx => ⟨c1, hx⟩⟩
          rw [hm]
          by_cases c3 : apart w h l (rd s (i - 1)) (rd s i) = 1
          · simp only [c3, if_true, beq_self_eq_true, Bool.or_true, Bool.true_and]
            exact hh (fun _ => c1)
          · simp only [show (apart w h l (rd s (i - 1)) (rd s i) == 1) = false from by simpa using c3, decide_eq_false (show ¬ i ≤ 0 from by omega), Bool.or_false, Bool.false_and, Bool.false_eq_true, if_false]
            exact Ev.now _
        · simp only [if_neg c2]
          simp only [decide_eq_true (show i ≤ 0 from by omega), Bool.true_or, Bool.true_and]
          exact hh (fun _ => c1)
      · rw [Bool.not_eq_true] at c1
        simp only [c1, Bool.false_eq_true, if_false, Bool.false_and]
        exact Ev.now _

def within (m : Int) : List Int → Int → List Int
  | [], _ => []
  | v :: t, i => if 0 ≤ v ∧ v ≤ m then i :: within m t (i + 1) else within m t (i + 1)
theorem within_length (m : Int) (l : List Int) : ∀ i, (within m l i).length ≤ l.length := by
  induction l with
  | nil => intro i; simp [within]
  | cons v t ih =>
    intro i
    have := ih (i + 1)
    unfold within
    split
    · simp only [List.length_cons]; omega
    · simp only [List.length_cons]; omega
def reach (w h : Int) (l : List Int) (a m : Int) : List Int := if isOpen w h l a = true then within m (dist w l a) 0 else []
theorem reach_length (w h : Int) (l : List Int) (a m : Int) : (reach w h l a m).length ≤ 64 := by
  unfold reach
  split
  · rename_i ha
    have hld := isOpen_land ha
    obtain ⟨_, _, _, h64, _⟩ := isLand_true hld
    obtain ⟨a0, a1, _⟩ := (isOpen_iff hld a).1 ha
    have := within_length m (dist w l a) 0
    have := dist_length hld a0 a1
    omega
  · simp

theorem impl_within_loop (m : Int) (d : List Int) (hd : d.length ≤ 64) : ∀ (n : Nat) (o : List Int) (i : Int), 0 ≤ i → i + n = d.length → o.length ≤ i.toNat → Ev (fun k => impl_within.l0 k m o d (d.length : Int) i) (o ++ within m (d.drop i.toNat) i) := by
  intro n
  induction n with
  | zero =>
    intro o i h0 hi ho
    rw [List.drop_eq_nil_of_le (by omega)]
    simp only [within, List.append_nil]
    refine Ev.step (f := fun _ => some o) (fun k => ?_) (Ev.now _)
    simp only [impl_within.l0]
    rw [if_neg (by omega)]
  | succ n ih =>
    intro o i h0 hi ho
    have hw : wrap64 (i + 1) = i + 1 := wrapS (by omega) (by omega)
    rw [drop_rd d i h0 (by omega)]
    by_cases c1 : 0 ≤ rd d i
    · by_cases c2 : rd d i ≤ m
      · simp only [within, if_pos (And.intro c1 c2)]
        have hh := ih (o ++ [i]) (i + 1) (by omega) (by omega) (by simp; omega)
        rw [List.append_assoc, List.singleton_append] at hh
        refine Ev.step (f := fun k => impl_within.l0 k m (o ++ [i]) d (d.length : Int) (i + 1)) (fun k => ?_) hh
        simp only [impl_within.l0, hw]
        rw [if_pos (by omega), if_pos h0, if_pos (by omega), if_pos c1, if_pos c2, if_pos (by omega)]
      · simp only [within, if_neg (show ¬ (0 ≤ rd d i ∧ rd d i ≤ m) from fun h => c2 h.2)]
        refine Ev.step (f := fun k => impl_within.l0 k m o d (d.length : Int) (i + 1)) (fun k => ?_) (ih o (i + 1) (by omega) (by omega) (by omega))
        simp only [impl_within.l0, hw]
        rw [if_pos (by omega), if_pos h0, if_pos (by omega), if_pos c1, if_neg c2]
    · simp only [within, if_neg (show ¬ (0 ≤ rd d i ∧ rd d i ≤ m) from fun h => c1 h.1)]
      refine Ev.step (f := fun k => impl_within.l0 k m o d (d.length : Int) (i + 1)) (fun k => ?_) (ih o (i + 1) (by omega) (by omega) (by omega))
      simp only [impl_within.l0, hw]
      rw [if_pos (by omega), if_pos h0, if_pos (by omega), if_neg c1]
theorem impl_Reach_ev (w h : Int) (l : List Int) (a m : Int) (hl : l.length ≤ 1048576) : Ev (fun k => impl_Reach.f k w h l a m) (reach w h l a m) := by
  unfold impl_Reach.f reach
  refine Ev.bind (impl_IsOpen_ev w h l a (by omega)) ?_
  by_cases ha : isOpen w h l a = true
  · have hld := isOpen_land ha
    obtain ⟨_, _, _, h64, _⟩ := isLand_true hld
    obtain ⟨a0, a1, _⟩ := (isOpen_iff hld a).1 ha
    have := dist_length hld a0 a1
    rw [ha]
    simp only [if_true]
    refine Ev.bind (impl_distances_ev w h l a ha) ?_
    unfold impl_within.f
    exact Ev.bind (impl_within_loop m (dist w l a) (by omega) (dist w l a).length [] 0 (by omega) (by omega) (by simp)) (Ev.now _)
  · simp only [ha, Bool.false_eq_true, if_false]
    exact Ev.now _

/-- The first of the greatest. -/
def firstMax (d : List Int) (b : Int) : Prop := (0 ≤ b ∧ b < d.length) ∧ (∀ j : Int, 0 ≤ j → j < d.length → rd d j ≤ rd d b) ∧ ∀ j : Int, 0 ≤ j → j < b → rd d j < rd d b
theorem firstMax_one {d : List Int} {b c : Int} (hb : firstMax d b) (hc : firstMax d c) : b = c := by
  obtain ⟨⟨b0, b1⟩, b2, b3⟩ := hb
  obtain ⟨⟨c0, c1⟩, c2, c3⟩ := hc
  by_cases h1 : b < c
  · have := c3 b b0 h1
    have := b2 c c0 c1
    omega
  · by_cases h2 : c < b
    · have := b3 c c0 h2
      have := c2 b b0 b1
      omega
    · omega

theorem impl_Farthest_loop (d : List Int) (hd : d.length ≤ 64) : ∀ (n : Nat) (b i : Int), 0 ≤ i → i + n = d.length → (0 ≤ b ∧ b < d.length) → (∀ j, 0 ≤ j → j < i → rd d j ≤ rd d b) → (∀ j, 0 ≤ j → j < i → j < b → rd d j < rd d b) → ∃ r, firstMax d r ∧ Ev (fun k => impl_Farthest.l0 k d b (d.length : Int) i) r := by
  intro n
  induction n with
  | zero =>
    intro b i h0 hi hb h1 h2
    refine ⟨b, ⟨hb, fun j j0 j1 => h1 j (by omega) (by omega), fun j j0 j1 => h2 j (by omega) (by omega) j1⟩, ?_⟩
    refine Ev.step (f := fun _ => some b) (fun k => ?_) (Ev.now _)
    simp only [impl_Farthest.l0]
    rw [if_neg (by omega)]
  | succ n ih =>
    intro b i h0 hi hb h1 h2
    have hw : wrap64 (i + 1) = i + 1 := wrapS (by omega) (by omega)
    by_cases c1 : rd d i > rd d b
    · obtain ⟨r, hr, he⟩ := ih i (i + 1) (by omega) (by omega) ⟨by omega, by omega⟩ (fun j j0 j1 => by
        by_cases e : j = i
        · subst e; omega
        · have := h1 j j0 (by omega); omega) (fun j j0 j1 j2 => by have := h1 j j0 (by omega); omega)
      refine ⟨r, hr, Ev.step (f := fun k => impl_Farthest.l0 k d i (d.length : Int) (i + 1)) (fun k => ?_) he⟩
      simp only [impl_Farthest.l0, hw]
      rw [if_pos (by omega), if_pos (by omega), if_pos (by omega), if_pos hb.1, if_pos hb.2, if_pos c1]
    · by_cases c2 : rd d i = rd d b
      · by_cases c3 : i < b
        · obtain ⟨r, hr, he⟩ := ih i (i + 1) (by omega) (by omega) ⟨by omega, by omega⟩ (fun j j0 j1 => by
            by_cases e : j = i
            · subst e; omega
            · have := h1 j j0 (by omega); omega) (fun j j0 j1 j2 => by have := h2 j j0 (by omega) (by omega); omega)
          refine ⟨r, hr, Ev.step (f := fun k => impl_Farthest.l0 k d i (d.length : Int) (i + 1)) (fun k => ?_) he⟩
          simp only [impl_Farthest.l0, hw]
          rw [if_pos (by omega), if_pos (by omega), if_pos (by omega), if_pos hb.1, if_pos hb.2, if_neg c1, if_pos c2, if_pos c3]
        · obtain ⟨r, hr, he⟩ := ih b (i + 1) (by omega) (by omega) hb (fun j j0 j1 => by
            by_cases e : j = i
            · subst e; omega
            · exact h1 j j0 (by omega)) (fun j j0 j1 j2 => h2 j j0 (by omega) j2)
          refine ⟨r, hr, Ev.step (f := fun k => impl_Farthest.l0 k d b (d.length : Int) (i + 1)) (fun k => ?_) he⟩
          simp only [impl_Farthest.l0, hw]
          rw [if_pos (by omega), if_pos (by omega), if_pos (by omega), if_pos hb.1, if_pos hb.2, if_neg c1, if_pos c2, if_neg c3]
      · obtain ⟨r, hr, he⟩ := ih b (i + 1) (by omega) (by omega) hb (fun j j0 j1 => by
          by_cases e : j = i
          · subst e; omega
          · exact h1 j j0 (by omega)) (fun j j0 j1 j2 => by
          by_cases e : j = i
          · subst e; omega
          · exact h2 j j0 (by omega) j2)
        refine ⟨r, hr, Ev.step (f := fun k => impl_Farthest.l0 k d b (d.length : Int) (i + 1)) (fun k => ?_) he⟩
        simp only [impl_Farthest.l0, hw]
        rw [if_pos (by omega), if_pos (by omega), if_pos (by omega), if_pos hb.1, if_pos hb.2, if_neg c1, if_neg c2]

theorem laws_sameInts_ev (l : List Int) (hl : l.length ≤ 17592186044416) : Ev (fun k => laws_sameInts.f k l l) true := by
  have key : ∀ (d : Nat) (i : Int), 0 ≤ i → i + d = l.length → Ev (fun k => laws_sameInts.l0 k l l i) true := by
    intro d
    induction d with
    | zero =>
      intro i h0 hi
      refine Ev.step (f := fun _ => some true) (fun k => ?_) (Ev.now _)
      simp only [laws_sameInts.l0]
      rw [if_neg (by omega)]
    | succ d ih =>
      intro i h0 hi
      refine Ev.step (f := fun k => laws_sameInts.l0 k l l (i + 1)) (fun k => ?_) (ih _ (by omega) (by omega))
      simp only [laws_sameInts.l0]
      rw [if_pos (by omega), if_pos h0, if_pos (by omega), wrapS (by omega) (by omega)]
      simp
  refine Ev.congr (f := fun k => laws_sameInts.l0 k l l 0) (fun k => ?_) (key l.length 0 (by omega) (by omega))
  unfold laws_sameInts.f
  rw [if_pos rfl]

theorem DrawWayTo_ex (b : List Int) (hb : b.length ≤ 1048576) : ∃ w h l n m, Ev (fun k => spec_DrawWayTo.f k b) (w, h, l, n, m) ∧ (-9223372036854775808 ≤ w ∧ w ≤ 9223372036854775807) ∧ l.length ≤ 30 := by
  unfold spec_DrawWayTo.f
  obtain ⟨w, h, l, n, hE, bw, bl⟩ := DrawIsCell_ex b hb
  obtain ⟨h0, hN⟩ := l1New_ex b hb
  obtain ⟨x, i2, h2, e2, _, _, g2⟩ := l1Below_ex b 0 h0 30 (by omega) hb
  have hA : Ev (fun k => spec_DrawApart.f k b) (w, h, l, n, x) := by
    unfold spec_DrawApart.f
    refine Ev.bind hE (Ev.bind hN ?_)
    simp only [e2, Option.bind_some]
    exact Ev.now _
  exact ⟨w, h, l, n, x, Ev.bind hA (Ev.now _), bw, bl⟩
theorem DrawReach_ex (b : List Int) (hb : b.length ≤ 1048576) : ∃ w h l n m, Ev (fun k => spec_DrawReach.f k b) (w, h, l, n, m) ∧ l.length ≤ 30 ∧ (-1 ≤ m ∧ m ≤ 99) := by
  unfold spec_DrawReach.f
  obtain ⟨w, h, l, n, hE, bw, bl⟩ := DrawIsCell_ex b hb
  obtain ⟨h0, hN⟩ := l1New_ex b hb
  obtain ⟨x, i2, h2, e2, m2, g2⟩ := l1Int_ex b 0 h0 [0, 1, 2, 4, 99, (-1)] (by simp) (by omega) hb
  refine ⟨w, h, l, n, x, Ev.bind hE (Ev.bind hN ?_), bl, ?_⟩
  · simp only [e2, Option.bind_some]
    exact Ev.now _
  · simp only [List.mem_cons, List.not_mem_nil, or_false] at m2
    omega
theorem DrawFarthest_ex (b : List Int) (hb : b.length ≤ 1048576) : ∃ w h l n, Ev (fun k => spec_DrawFarthest.f k b) (w, h, l, n) ∧ l.length ≤ 30 := by
  unfold spec_DrawFarthest.f
  obtain ⟨w, h, l, n, hE, bw, bl⟩ := DrawIsCell_ex b hb
  exact ⟨w, h, l, n, Ev.bind hE (Ev.now _), bl⟩
theorem within_ge (m : Int) (l : List Int) : ∀ i, ∀ x ∈ within m l i, i ≤ x := by
  induction l with
  | nil => intro i x hx; simp [within] at hx
  | cons v t ih =>
    intro i x hx
    unfold within at hx
    split at hx
    · rcases List.mem_cons.1 hx with rfl | hx
      · omega
      · have := ih (i + 1) x hx
        omega
    · have := ih (i + 1) x hx
      omega
theorem within_asc (m : Int) (l : List Int) : ∀ i, (within m l i).Pairwise (· < ·) := by
  induction l with
  | nil => intro i; exact List.Pairwise.nil
  | cons v t ih =>
    intro i
    unfold within
    split
    · refine List.pairwise_cons.2 ⟨fun x hx => ?_, ih _⟩
      have := within_ge m t (i + 1) x hx
      omega
    · exact ih _
theorem within_sub (m m' : Int) (hm : m' ≤ m) (l : List Int) : ∀ i, ∀ x ∈ within m' l i, x ∈ within m l i := by
  induction l with
  | nil => intro i x hx; exact hx
  | cons v t ih =>
    intro i x hx
    unfold within at hx ⊢
    by_cases c : 0 ≤ v ∧ v ≤ m'
    · rw [if_pos c] at hx
      rw [if_pos ⟨c.1, by omega⟩]
      rcases List.mem_cons.1 hx with rfl | hx
      · exact List.mem_cons_self
      · exact List.mem_cons_of_mem _ (ih _ _ hx)
    · rw [if_neg c] at hx
      split
      · exact List.mem_cons_of_mem _ (ih _ _ hx)
      · exact ih _ _ hx
theorem within_same (m m' : Int) (l : List Int) (h1 : ∀ v ∈ l, v ≤ m) (h2 : ∀ v ∈ l, v ≤ m') : ∀ i, within m l i = within m' l i := by
  induction l with
  | nil => intro i; rfl
  | cons v t ih =>
    intro i
    have a := h1 v List.mem_cons_self
    have b := h2 v List.mem_cons_self
    have e := ih (fun x hx => h1 x (List.mem_cons_of_mem _ hx)) (fun x hx => h2 x (List.mem_cons_of_mem _ hx)) (i + 1)
    unfold within
    by_cases c : 0 ≤ v
    · rw [if_pos ⟨c, a⟩, if_pos ⟨c, b⟩, e]
    · rw [if_neg (fun h => c h.1), if_neg (fun h => c h.1), e]
theorem laws_within_ev (a b : List Int) (ha : a.length ≤ 64) (hb : b.length ≤ 64) (hs : ∀ x ∈ a, x ∈ b) : Ev (fun k => laws_within.f k a b) true := by
  have key : ∀ (d : Nat) (i : Int), 0 ≤ i → i + d = a.length → Ev (fun k => laws_within.l0 k a b i) true := by
    intro d
    induction d with
    | zero =>
      intro i h0 hi
      refine Ev.step (f := fun _ => some true) (fun k => ?_) (Ev.now _)
      simp only [laws_within.l0]
      rw [if_neg (by omega)]
    | succ d ih =>
      intro i h0 hi
      refine Ev.step (fun k => by rw [laws_within.l0, if_pos (show i < (a.length : Int) from by omega), if_pos h0, wrapS (x := i + 1) (by omega) (by omega)]) ?_
      refine Ev.bind (laws_contains_ev b (rd a i) hb (hs _ (rd_in a i h0 (by omega)))) ?_
      simp only [if_true]
      exact ih (i + 1) (by omega) (by omega)
  exact key a.length 0 (by omega) (by omega)
theorem impl_Farthest_ex (w h : Int) (l : List Int) (a : Int) (hl : l.length ≤ 1048576) : ∃ r, Ev (fun k => impl_Farthest.f k w h l a) r ∧ (isOpen w h l a = true → firstMax (dist w l a) r) ∧ (¬ isOpen w h l a = true → r = -1) := by
  unfold impl_Farthest.f
  have e2 := impl_IsOpen_ev w h l a (by omega)
  by_cases ha : isOpen w h l a = true
  · have hld := isOpen_land ha
    obtain ⟨_, _, _, h64, _⟩ := isLand_true hld
    obtain ⟨a0, a1, _⟩ := (isOpen_iff hld a).1 ha
    have hdl := dist_length hld a0 a1
    rw [ha] at e2
    obtain ⟨r', hr', he'⟩ := impl_Farthest_loop (dist w l a) (by omega) (dist w l a).length a 0 (by omega) (by omega) ⟨a0, by omega⟩ (fun j j0 j1 => by omega) (fun j j0 j1 => by omega)
    refine ⟨r', Ev.bind e2 ?_, fun _ => hr', fun hx => absurd ha hx⟩
    simp only [if_true]
    exact Ev.bind (impl_distances_ev w h l a ha) he'
  · refine ⟨-1, Ev.bind e2 ?_, fun hx => absurd hx ha, fun _ => rfl⟩
    simp only [ha, Bool.false_eq_true, if_false]
    exact Ev.now _
theorem ways_j3 (b : List Int) (hb : b.length ≤ 1048576) : Ev (fun k => laws_FnWays.j3 k b false) true := by
  refine Ev.step (fun k => by rw [laws_FnWays.j3]) ?_
  simp only [Bool.false_eq_true, if_false]
  obtain ⟨w, h, l, n, hE, bl⟩ := DrawFarthest_ex b hb
  refine Ev.bind (hE) ?_
  obtain ⟨r, eF, f1, f2⟩ := impl_Farthest_ex w h l n (by omega)
  refine Ev.bind (eF) ?_
  refine Ev.bind (impl_IsOpen_ev w h l n (by omega)) ?_
  by_cases ho : isOpen w h l n = true
  · obtain ⟨⟨r0, r1⟩, r2, r3⟩ := f1 ho
    have hld := isOpen_land ho
    obtain ⟨_, _, _, h64, _⟩ := isLand_true hld
    obtain ⟨n0, n1, _⟩ := (isOpen_iff hld n).1 ho
    have hdl := dist_length hld n0 n1
    have hs := dist_self ho
    have hz := r2 n n0 (by omega)
    have hro : isOpen w h l r = true := (bf_dist ho).opn r ⟨⟨r0, by omega⟩, by omega⟩
    have hd : days w h l n r = rd (dist w l n) r := by
      unfold days
      rw [if_pos ⟨ho, hro⟩]
    have h99 := (dist_inv hld n0 n1).2 r r0
    rw [ho]
    simp only [decide_eq_true (show r ≥ 0 from r0), beq_self_eq_true, if_true, if_neg (show ¬ r < 0 from by omega)]
    refine Ev.bind (impl_Days_ev w h l n r (by omega)) ?_
    refine Ev.bind (impl_Reach_ev w h l n (days w h l n r) (by omega)) ?_
    refine Ev.bind (impl_Reach_ev w h l n 99 (by omega)) ?_
    have hle : ∀ v ∈ dist w l n, v ≤ rd (dist w l n) r := by
      intro v hv
      obtain ⟨j, hj, e⟩ := List.mem_iff_getElem.1 hv
      have := r2 (j : Int) (by omega) (by omega)
      have e2 : rd (dist w l n) (j : Int) = v := by
        simp only [rd, Int.toNat_natCast, List.getD_eq_getElem?_getD, List.getElem?_eq_getElem hj, Option.getD_some, e]
      omega
    have hsame : reach w h l n (days w h l n r) = reach w h l n 99 := by
      unfold reach
      rw [if_pos ho, if_pos ho, hd]
      exact within_same _ _ _ hle (fun v hv => by have := hle v hv; omega) 0
    rw [hsame]
    simp only [beq_self_eq_true]
    exact Ev.now _
  · have hr := f2 ho
    rw [Bool.not_eq_true] at ho
    rw [ho, hr]
    simp only [show decide ((-1 : Int) ≥ 0) = false from rfl, beq_self_eq_true, if_true, if_pos (show (-1 : Int) < 0 from by omega)]
    exact Ev.now _
theorem ways_fin (b : List Int) (hb : b.length ≤ 1048576) (n m D : Int) (r : List Int) (i w h : Int) (l : List Int) (hi : ¬ i < (r.length : Int)) : Ev (fun k => laws_FnWays.l1 k b n m D r i w h l) true := by
  refine Ev.step (fun k => by rw [laws_FnWays.l1, if_neg hi]) ?_
  obtain ⟨w2, h2, l2, c, q, hE, bl, bq⟩ := DrawReach_ex b hb
  refine Ev.bind (hE) ?_
  refine Ev.bind (impl_Reach_ev w2 h2 l2 c q (by omega)) ?_
  have l1 := reach_length w2 h2 l2 c q
  have l2' := reach_length w2 h2 l2 c (q - 1)
  have ha : (reach w2 h2 l2 c q).Pairwise (· < ·) := by
    unfold reach
    split
    · exact within_asc _ _ _
    · exact List.Pairwise.nil
  refine Ev.bind (laws_ascends_ev _ l1 ha) ?_
  simp only [if_true]
  rw [wrapS (x := q - 1) (by omega) (by omega)]
  refine Ev.bind (impl_Reach_ev w2 h2 l2 c (q - 1) (by omega)) ?_
  have hs : ∀ x ∈ reach w2 h2 l2 c (q - 1), x ∈ reach w2 h2 l2 c q := by
    unfold reach
    split
    · exact within_sub q (q - 1) (by omega) _ _
    · intro x hx; exact hx
  refine Ev.bind (laws_within_ev _ _ l2' l1 hs) ?_
  simp only [if_true]
  exact ways_j3 b hb
/-- What the law has found of the two cells' days, when it looks at the first one's neighbours. -/
theorem ways_l1 (b : List Int) (hb : b.length ≤ 1048576) (n m w h : Int) (l : List Int) (bl : l.length ≤ 30) (r : List Int) (hr : r = if isCell w h l n = true then near w l n else []) (h4 : r.length ≤ 4) : ∀ (d : Nat) (i : Int), 0 ≤ i → i + d = r.length → Ev (fun k => laws_FnWays.l1 k b n m (days w h l n m) r i w h l) true := by
  intro d
  induction d with
  | zero =>
    intro i h0 hi
    exact ways_fin b hb n m _ r i w h l (by omega)
  | succ d ih =>
    intro i h0 hi
    have hh := ih (i + 1) (by omega) (by omega)
    have hm := rd_in r i h0 (by omega)
    refine Ev.step (fun k => by rw [laws_FnWays.l1, if_pos (show i < (r.length : Int) from by omega), if_pos h0, wrapS (x := i + 1) (by omega) (by omega)]) ?_
    generalize hx : rd r i = x at hm ⊢
    refine Ev.bind (impl_Days_ev w h l x m (by omega)) ?_
    by_cases c : days w h l n m ≥ 0
    · obtain ⟨hn, hmo, hv, h64⟩ := days_pos (show ¬ days w h l n m < 0 from by omega)
      have hld := isOpen_land hn
      rw [hr, if_pos (isCell_mk hld hv.1.1 hv.1.2)] at hm
      obtain ⟨g1, g2, g3⟩ := dist_near hmo hv hm
      have d1 := days_at hmo hv
      have d2 := days_at hmo g1
      have gz := g1.2
      rw [d1, d2]
      rw [d1] at hh c
      simp only [if_pos c]
      rw [wrapS (x := rd (dist w l m) n - 1) (by omega) (by omega)]
      simp only [if_neg (show ¬ rd (dist w l m) x < rd (dist w l m) n - 1 from by omega), if_neg (show ¬ rd (dist w l m) x < 0 from by omega)]
      exact hh
    · simp only [if_neg c]
      exact hh
theorem ways_next (b : List Int) (hb : b.length ≤ 1048576) (n m w h : Int) (l : List Int) (bw : -9223372036854775808 ≤ w ∧ w ≤ 9223372036854775807) (bl : l.length ≤ 30) (s : List Int) (i : Int) (hi : ¬ i < (s.length : Int)) : Ev (fun k => laws_FnWays.l0 k b n m (days w h l n m) s i w h l) true := by
  refine Ev.step (fun k => by rw [laws_FnWays.l0, if_neg hi]) ?_
  have ei := impl_Near_ev w h l n (by omega) bw
  have h4 : (if isCell w h l n = true then near w l n else []).length ≤ 4 := by
    split
    · exact near_length w l n
    · simp
  refine Ev.bind (ei) ?_
  exact ways_l1 b hb n m w h l bl _ rfl h4 (if isCell w h l n = true then near w l n else []).length 0 (by omega) (by omega)
theorem ways_l0 (b : List Int) (hb : b.length ≤ 1048576) (n m w h : Int) (l : List Int) (bw : -9223372036854775808 ≤ w ∧ w ≤ 9223372036854775807) (bl : l.length ≤ 30) (s : List Int) (hs : s = wayTo w h l n m) : ∀ (d : Nat) (i : Int), 0 ≤ i → i + d = s.length → Ev (fun k => laws_FnWays.l0 k b n m (days w h l n m) s i w h l) true := by
  intro d
  induction d with
  | zero =>
    intro i h0 hi
    exact ways_next b hb n m w h l bw bl s i (by omega)
  | succ d ih =>
    intro i h0 hi
    have hh := ih (i + 1) (by omega) (by omega)
    have hd : ¬ days w h l n m < 0 := by
      intro hx
      unfold wayTo at hs
      rw [if_pos hx] at hs
      subst hs
      simp at hi
      omega
    obtain ⟨hn, hmo, hv, h64⟩ := days_pos hd
    have hv0 := hv.2
    have hse := hs
    rw [wayTo_eq hmo hv] at hse
    have hln : (s.length : Int) = rd (dist w l m) n + 1 := by
      rw [hse, List.length_cons, wt_length]
      omega
    obtain ⟨x, x1, x2, x3⟩ := wt_at hmo (rd (dist w l m) n).toNat n hv (by omega) i.toNat (by omega)
    rw [← hse] at x3
    have hx := rd_mid s i x _ x3
    have dx := days_at hmo x1
    have dn := days_at hmo hv
    have wx := wayTo_eq hmo x1
    rw [show (rd (dist w l m) x).toNat = (rd (dist w l m) n).toNat - i.toNat from by omega, ← x3] at wx
    refine Ev.step (fun k => by rw [laws_FnWays.l0, if_pos (show i < (s.length : Int) from by omega), if_pos h0, wrapS (x := i + 1) (by omega) (by omega), hx]) ?_
    refine Ev.bind (impl_Days_ev w h l x m (by omega)) ?_
    rw [wrapS (x := days w h l n m - i) (by omega) (by omega)]
    simp only [if_pos (show days w h l x m = days w h l n m - i from by omega)]
    refine Ev.bind (impl_WayTo_ev w h l x m (by omega)) ?_
    rw [wx]
    simp only [if_pos (show i ≤ (s.length : Int) from by omega)]
    refine Ev.bind (laws_sameInts_ev (s.drop i.toNat) (by rw [List.length_drop]; omega)) ?_
    simp only [if_true]
    exact hh
theorem wayFrom_all (w h : Int) (l s : List Int) (h0 : 0 < s.length) (hall : ∀ i : Int, 0 ≤ i → i < s.length → wayAt w h l s i = true) : ∀ (n : Nat) (i : Int), 0 ≤ i → i + n = s.length → wayFrom w h l s n i = true := by
  intro n
  induction n with
  | zero =>
    intro i _ _
    unfold wayFrom
    rw [decide_eq_true_eq]
    omega
  | succ n ih =>
    intro i hi hn
    unfold wayFrom
    rw [hall i hi (by omega), ih (i + 1) (by omega) (by omega)]
    rfl
theorem way_isWay {w h : Int} {l : List Int} {n m : Int} (hmo : isOpen w h l m = true) (hv : Vd l (dist w l m) n) (s : List Int) (hs : s = n :: wt w l (dist w l m) (rd (dist w l m) n).toNat n) : wayFrom w h l s s.length 0 = true := by
  have hl := isOpen_land hmo
  have hv0 := hv.2
  have hln : (s.length : Int) = rd (dist w l m) n + 1 := by
    rw [hs, List.length_cons, wt_length]
    omega
  refine wayFrom_all w h l s (by omega) ?_ s.length 0 (by omega) (by omega)
  intro i hi hlt
  obtain ⟨x, x1, x2, x3⟩ := wt_at hmo (rd (dist w l m) n).toNat n hv (by omega) i.toNat (by omega)
  rw [← hs] at x3
  have hx := rd_mid s i x _ x3
  have ho := (bf_dist hmo).opn x x1
  unfold wayAt
  rw [hx, ho, Bool.true_and]
  by_cases c : i ≤ 0
  · rw [decide_eq_true c, Bool.true_or]
  · obtain ⟨y, y1, y2, y3⟩ := wt_at hmo (rd (dist w l m) n).toNat n hv (by omega) (i - 1).toNat (by omega)
    rw [← hs] at y3
    have hy := rd_mid s (i - 1) y _ y3
    rw [show (rd (dist w l m) n).toNat - (i - 1).toNat = ((rd (dist w l m) n).toNat - i.toNat) + 1 from by omega] at y3
    have hne : y ≠ m := by
      intro hym
      subst hym
      have := dist_self hmo
      omega
    obtain ⟨k1, k2, k3⟩ := nx_next hmo y1 hne
    have e3 : s.drop i.toNat = (s.drop (i - 1).toNat).drop 1 := by
      rw [List.drop_drop]
      congr 1
      omega
    rw [x3, y3] at e3
    simp only [wt, List.drop_succ_cons, List.drop_zero, List.cons.injEq] at e3
    have hyo := (bf_dist hmo).opn y y1
    rw [hy, apart_step (isCell_mk hl y1.1.1 y1.1.2) (isCell_mk hl x1.1.1 x1.1.2), e3.1, ((mem_near hl y1.1.1 y1.1.2 _).1 k1).2]
    simp
theorem ways_j0 (b : List Int) (hb : b.length ≤ 1048576) (n m w h : Int) (l : List Int) (bw : -9223372036854775808 ≤ w ∧ w ≤ 9223372036854775807) (bl : l.length ≤ 30) (s : List Int) (hs : s = wayTo w h l n m) : Ev (fun k => laws_FnWays.j0 k b n m (days w h l n m) s false w h l) true := by
  refine Ev.step (fun k => by rw [laws_FnWays.j0]) ?_
  simp only [Bool.false_eq_true, if_false]
  exact ways_l0 b hb n m w h l bw bl s hs s.length 0 (by omega) (by omega)
theorem FnWays : laws_FnWays.Pure := by
  intro b _ _ _
  apply Ev.rounds
  unfold laws_FnWays.f laws_big.f
  simp only [Option.bind_some]
  by_cases h1 : (b.length : Int) > 1048576
  · simp only [decide_eq_true h1, if_true]; exact Ev.now _
  simp only [decide_eq_false h1, Bool.false_eq_true, if_false]
  have hb : b.length ≤ 1048576 := by omega
  obtain ⟨w, h, l, n, m, hE, bw, bl⟩ := DrawWayTo_ex b hb
  refine Ev.bind (hE) ?_
  refine Ev.bind (impl_Days_ev w h l n m (by omega)) ?_
  refine Ev.bind (impl_WayTo_ev w h l n m (by omega)) ?_
  refine Ev.bind (impl_Days_ev w h l m n (by omega)) ?_
  rw [days_sym w h l m n]
  simp only [if_true]
  by_cases hd : days w h l n m < 0
  · have hs : wayTo w h l n m = [] := by
      unfold wayTo
      rw [if_pos hd]
    have hj := ways_j0 b hb n m w h l bw bl [] hs.symm
    rw [hs]
    simp only [decide_eq_false (show ¬ days w h l n m ≥ 0 from by omega), List.length_nil, show decide (((0 : Nat) : Int) > 0) = false from rfl, bne_self_eq_false, Bool.false_eq_true, if_false, if_neg (show ¬ days w h l n m ≥ 0 from by omega)]
    exact hj
  · obtain ⟨hn, hmo, hv, h64⟩ := days_pos hd
    have hv0 := hv.2
    have hl := isOpen_land hn
    have dn := days_at hmo hv
    have hse := wayTo_eq hmo hv
    have hj := ways_j0 b hb n m w h l bw bl _ rfl
    have hw := way_isWay hmo hv _ hse
    generalize hs : wayTo w h l n m = s at hse hj hw ⊢
    have hln : (s.length : Int) = rd (dist w l m) n + 1 := by
      rw [hse, List.length_cons, wt_length]
      omega
    have hr0 : rd s 0 = n := by rw [hse]; rfl
    obtain ⟨x, x1, x2, x3⟩ := wt_at hmo (rd (dist w l m) n).toNat n hv (by omega) (rd (dist w l m) n).toNat (by omega)
    rw [← hse] at x3
    have hxm : x = m := by
      by_cases hne : x = m
      · exact hne
      · obtain ⟨u, _, hu, he⟩ := dist_down hmo x1 hne
        have := hu.2
        omega
    have hrm : rd s (days w h l n m) = m := by
      rw [dn]
      rw [rd_mid s _ x _ x3, hxm]
    have ha : ¬ days w h l n m < apart w h l n m := by
      obtain ⟨m0, m1, _⟩ := (isOpen_iff hl m).1 hmo
      rw [apart_step (isCell_mk hl hv.1.1 hv.1.2) (isCell_mk hl m0 m1), dn]
      have := step_dist hmo (rd (dist w l m) n).toNat n hv (by omega)
      omega
    rw [wrapS (x := days w h l n m + 1) (by omega) (by omega)]
    simp only [decide_eq_true (show days w h l n m ≥ 0 from by omega), decide_eq_true (show (s.length : Int) > 0 from by omega), bne_self_eq_false, Bool.false_eq_true, if_false, if_pos (show days w h l n m ≥ 0 from by omega), if_pos (show (s.length : Int) = days w h l n m + 1 from by omega)]
    unfold impl_IsWay.f
    refine Ev.bind (impl_IsWay_loop w h l s (by omega) (by omega) bw s.length 0 (by omega) (by omega) (fun hx => by omega)) ?_
    rw [hw]
    simp only [if_true, if_pos (show (0 : Int) < (s.length : Int) from by omega), hr0, if_pos (show 0 ≤ days w h l n m from by omega), if_pos (show days w h l n m < (s.length : Int) from by omega), hrm]
    refine Ev.bind (impl_Apart_ev w h l n m (by omega)) ?_
    rw [decide_eq_false ha]
    exact hj

end Go.Proofs.Ytncenfihphdipaa.Pure
