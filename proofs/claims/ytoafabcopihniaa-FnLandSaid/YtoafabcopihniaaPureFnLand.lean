/- FnLand answers true, for each list of bytes. -/
import Derived.Test.YtoafabcopihniaaQFnLandx7
import Derived.Test.YtoafabcopihniaaWSized
set_option linter.unusedVariables false
set_option linter.unusedSimpArgs false
namespace Go.Proofs.Ytoafabcopihniaa.PrintWords
open Go.ChangeShapes Go.WideShapes
/-- The printed row names the word so; it lies one namespace beside. -/
theorem sized_ints {H : Type} {enc : TypeId × Value → H} {P : Program} {W : World} {base : Nat} {spare : Nat → Bool} {held : Bool} {t e : TypeId} {k : IntKind} {a : Option Addr} {len cap : Nat} {d : DataW H} {ps : List MemPlace} {ts : List TypeId} {ds : List (DataW H)} {j : Nat}
    (hsz : (DataW.weightsEach P ts ds).all (· ≤ reachBytes) = true) (ht : ts[j]? = some t) (hd : ds[j]? = some d) (hu : P.underlying t = some (.slice e)) (he : P.underlying e = some (.int k)) (hc : P.cellsOf e = 1) {B : Nat} (hB : P.bytesOf e = B)
    (h : DataW.Trod enc P W base spare held t (.slice a len cap) d ps) : len * B ≤ 140737488351232 :=
  Go.Proofs.YtoafabcopihniaaW.PrintWords.sized_ints hsz ht hd hu he hc hB h
end Go.Proofs.Ytoafabcopihniaa.PrintWords
namespace Go.Proofs.Ytoafabcopihniaa.Pure
open Go.RowKit Go.Proofs.Ytoafabcopihniaa.QFnLand Go.Proofs.YtoafabcopihniaaW.PrintWords Go.Proofs.YtoafabcopihniaaW.PrintLast Go.Proofs.YtoafabcopihniaaW.PrintMore

theorem wrapS {x : Int} (h1 : -9223372036854775808 ≤ x) (h2 : x ≤ 9223372036854775807) : wrap64 x = x := by
  unfold wrap64
  omega
theorem i64wf {x : Int} (h : (Lit.int .i64 x).wf = true) : -9223372036854775808 ≤ x ∧ x ≤ 9223372036854775807 := by
  have h1 : (decide (IntKind.i64.min ≤ x) && decide (x ≤ IntKind.i64.max)) = true := h
  rw [Bool.and_eq_true, decide_eq_true_eq, decide_eq_true_eq] at h1
  exact h1
theorem u8wf {x : Int} (h : (Lit.int .u8 x).wf = true) : 0 ≤ x ∧ x ≤ 255 := by
  have h1 : (decide (IntKind.u8.min ≤ x) && decide (x ≤ IntKind.u8.max)) = true := h
  rw [Bool.and_eq_true, decide_eq_true_eq, decide_eq_true_eq] at h1
  exact h1
/-- What is told of some number of rounds is told of any three together. -/
theorem evNow {α : Type} {g : Option α} {r : α} (h : g = some r) : Ev (fun _ => g) r := ⟨0, fun _ _ => h⟩
theorem one_add_neg (n : Nat) : ((1 : Int) + (n : Int) < 0) = False := by
  simp only [eq_iff_iff, iff_false]
  omega

theorem set_take_succ {α : Type} (d : α) (o l : List α) (n : Nat) (ho : o.length = l.length) (hn : n < l.length) (ht : o.take n = l.take n) : (o.set n (l.getD n d)).take (n + 1) = l.take (n + 1) := by
  apply List.ext_getElem?
  intro j
  have hj := congrArg (fun t => t[j]?) ht
  simp only [List.getElem?_take] at hj ⊢
  by_cases h1 : j < n
  · rw [if_pos h1, if_pos h1] at hj
    rw [if_pos (by omega), if_pos (by omega), List.getElem?_set_ne (by omega)]
    exact hj
  · by_cases h2 : j = n
    · subst h2
      rw [if_pos (by omega), if_pos (by omega), List.getElem?_set_self (by omega), List.getElem?_eq_getElem hn, List.getD_eq_getElem?_getD, List.getElem?_eq_getElem hn]
      rfl
    · rw [if_neg (by omega), if_neg (by omega)]
theorem take_all {α : Type} {o l : List α} (n : Nat) (ho : o.length = l.length) (hn : l.length ≤ n) (ht : o.take n = l.take n) : o = l := by
  rw [List.take_of_length_le (by omega), List.take_of_length_le (by omega)] at ht
  exact ht

def hgo (d : Int) (l : List Int) : Int := l.foldl (fun d v => (d * 1000003 + v % 2147483647 + 13) % 2147483647) d
def hashOf (l : List Int) : Int := hgo 11 l
def khash (a : Int) (l : List Int) : Int := hashOf ([a] ++ l ++ [a])
theorem hgo_range (l : List Int) : ∀ d, 0 ≤ d → d < 2147483647 → 0 ≤ hgo d l ∧ hgo d l < 2147483647 := by
  induction l with
  | nil => intro d h1 h2; exact ⟨h1, h2⟩
  | cons v l ih => intro d h1 h2; exact ih ((d * 1000003 + v % 2147483647 + 13) % 2147483647) (by omega) (by omega)
theorem khash_range (a : Int) (l : List Int) : 0 ≤ khash a l ∧ khash a l < 2147483647 := hgo_range _ 11 (by omega) (by omega)
theorem drop_rd (l : List Int) (i : Int) (h0 : 0 ≤ i) (h1 : i < l.length) : l.drop i.toNat = rd l i :: l.drop (i + 1).toNat := by
  rw [show (i + 1).toNat = i.toNat + 1 from by omega, List.drop_eq_getElem_cons (by omega)]
  congr 1
  simp [rd, List.getD_eq_getElem?_getD, List.getElem?_eq_getElem (show i.toNat < l.length by omega)]
theorem hash_round (d v : Int) (h1 : 0 ≤ d) (h2 : d < 2147483647) : Int.tmod (wrap64 ((wrap64 ((wrap64 (d * 1000003)) + v % 2147483647)) + 13)) 2147483647 = (d * 1000003 + v % 2147483647 + 13) % 2147483647 := by
  rw [wrapS (x := d * 1000003) (by omega) (by omega), wrapS (x := d * 1000003 + v % 2147483647) (by omega) (by omega), wrapS (by omega) (by omega), Int.tmod_eq_emod_of_nonneg (by omega)]

theorem and255 (y : Int) : 0 ≤ Go.bits .and .i64 y 255 ∧ Go.bits .and .i64 y 255 ≤ 255 := by
  simp only [Go.bits, BitVec.toNat_and]
  have h : (BitVec.ofInt IntKind.i64.bits y).toNat &&& (BitVec.ofInt IntKind.i64.bits 255).toNat ≤ 255 := by
    have e : (BitVec.ofInt IntKind.i64.bits 255).toNat = 255 := by decide
    rw [e]
    exact Nat.and_le_right
  rw [IntKind.wrap_i64]
  omega
theorem l1Byte_ex (b : List Int) (i h : Int) (hi : 0 ≤ i) (hb : b.length ≤ 1048576) : ∃ x i' h', spec_l1Byte.f b i h = some (x, i', h') ∧ (0 ≤ x ∧ x ≤ 255) ∧ 0 ≤ i' := by
  unfold spec_l1Byte.f
  by_cases c : i < (b.length : Int)
  · rw [if_pos c, if_pos hi]
    exact ⟨_, _, _, rfl, and255 _, by rw [wrapS (by omega) (by omega)]; omega⟩
  · rw [if_neg c]
    exact ⟨_, _, _, rfl, and255 _, hi⟩

theorem l1Below_ex (b : List Int) (i h n : Int) (hi : 0 ≤ i) (hb : b.length ≤ 1048576) : ∃ x i' h', spec_l1Below.f b i h n = some (x, i', h') ∧ (n ≤ 0 → x = 0) ∧ (0 < n → 0 ≤ x ∧ x < n) ∧ 0 ≤ i' := by
  unfold spec_l1Below.f
  by_cases c : n ≤ 0
  · rw [if_pos c]
    exact ⟨_, _, _, rfl, fun _ => rfl, fun h => by omega, hi⟩
  · rw [if_neg c]
    have fin : ∀ v : Int, 0 ≤ v → 0 ≤ Int.tmod v n ∧ Int.tmod v n < n := by
      intro v hv
      rw [Int.tmod_eq_emod_of_nonneg hv]
      exact ⟨Int.emod_nonneg _ (by omega), Int.emod_lt_of_pos _ (by omega)⟩
    obtain ⟨x, i1, h1, e1, b1, g1⟩ := l1Byte_ex b i h hi hb
    by_cases c2 : n ≤ 256
    · rw [if_pos c2, e1]
      simp only [Option.bind_some]
      rw [if_neg (by omega)]
      exact ⟨_, _, _, rfl, fun h => absurd h c, fun _ => fin x b1.1, g1⟩
    · rw [if_neg c2, e1]
      obtain ⟨y, i2, h2, e2, b2, g2⟩ := l1Byte_ex b i1 h1 g1 hb
      obtain ⟨z, i3, h3, e3, b3, g3⟩ := l1Byte_ex b i2 h2 g2 hb
      simp only [Option.bind_some, e2, e3]
      rw [if_neg (by omega)]
      refine ⟨_, _, _, rfl, fun h => absurd h c, fun _ => fin _ ?_, g3⟩
      rw [wrapS (x := x * 65536) (by omega) (by omega), wrapS (x := y * 256) (by omega) (by omega), wrapS (x := x * 65536 + y * 256) (by omega) (by omega), wrapS (by omega) (by omega)]
      omega

theorem l1Int_ex (b : List Int) (i h : Int) (l : List Int) (hl : 0 < l.length) (hi : 0 ≤ i) (hb : b.length ≤ 1048576) : ∃ x i' h', spec_l1Int.f b i h l = some (x, i', h') ∧ x ∈ l ∧ 0 ≤ i' := by
  unfold spec_l1Int.f
  obtain ⟨x, i1, h1, e1, _, b1, g1⟩ := l1Below_ex b i h (l.length : Int) hi hb
  have b1 := b1 (by omega)
  rw [e1]
  simp only [Option.bind_some]
  rw [if_pos b1.1, if_pos b1.2]
  refine ⟨_, _, _, rfl, ?_, g1⟩
  simp only [rd, List.getD_eq_getElem?_getD, List.getElem?_eq_getElem (show x.toNat < l.length by omega), Option.getD_some]
  exact List.getElem_mem _

theorem l1New_ex (l : List Int) (hl : l.length ≤ 1048576) : ∃ h, Ev (fun k => spec_l1New.f k l) (l, 0, h) := by
  have key : ∀ (d : Nat) (x i : Int), 0 ≤ i → i + d = l.length → ∃ h, Ev (fun k => spec_l1New.l0 k l x i) (l, 0, h) := by
    intro d
    induction d with
    | zero =>
      intro x i h0 hi
      refine ⟨x, Ev.step (f := fun _ => some (l, 0, x)) (fun k => ?_) (Ev.now _)⟩
      simp only [spec_l1New.l0]
      rw [if_neg (by omega)]
    | succ d ih =>
      intro x i h0 hi
      by_cases c : i < 4000
      · obtain ⟨h, hh⟩ := ih (Go.bits .and .i64 (wrap64 ((wrap64 ((wrap64 (x * 137)) + (wrap64 (rd l i)))) + 11)) 1073741823) (i + 1) (by omega) (by omega)
        refine ⟨h, Ev.step (fun k => ?_) hh⟩
        simp only [spec_l1New.l0]
        rw [if_pos (by omega), if_pos c, if_pos h0, wrapS (x := i + 1) (by omega) (by omega)]
      · refine ⟨x, Ev.step (f := fun _ => some (l, 0, x)) (fun k => ?_) (Ev.now _)⟩
        simp only [spec_l1New.l0]
        rw [if_pos (by omega), if_neg c]
  unfold spec_l1New.f
  exact key l.length _ 0 (by omega) (by omega)

theorem l4Raw_ex (b : List Int) (i h : Int) (hi : 0 ≤ i) (hb : b.length ≤ 1048576) : ∃ x i' h', spec_l4Raw.f b i h = some (x, i', h') ∧ (-9223372036854775808 ≤ x ∧ x ≤ 9223372036854775807) ∧ 0 ≤ i' := by
  unfold spec_l4Raw.f
  obtain ⟨x, i1, h1, e1, m1, g1⟩ := l1Int_ex b i h [(-1), 0, 8, 9, 64, 9223372036854775807, (-9223372036854775808)] (by simp) hi hb
  rw [e1]
  refine ⟨_, _, _, rfl, ?_, g1⟩
  simp only [List.mem_cons, List.not_mem_nil, or_false] at m1
  show -9223372036854775808 ≤ x ∧ x ≤ 9223372036854775807
  omega
theorem l4Draw_ex (b : List Int) (i h : Int) (hi : 0 ≤ i) (hb : b.length ≤ 1048576) : ∃ w hh l i' h', Ev (fun k => spec_l4Draw.f k b i h) (w, hh, l, i', h') ∧ (2 ≤ w ∧ w ≤ 6) ∧ (2 ≤ hh ∧ hh ≤ 5) ∧ 0 < l.length ∧ l.length ≤ 30 ∧ 0 ≤ i' := by
  unfold spec_l4Draw.f
  obtain ⟨x, i1, h1, e1, _, b1, g1⟩ := l1Below_ex b i h 5 hi hb
  obtain ⟨y, i2, h2, e2, _, b2, g2⟩ := l1Below_ex b i1 h1 4 g1 hb
  have b1 := b1 (by omega)
  have b2 := b2 (by omega)
  have w1 : wrap64 (2 + x) = 2 + x := wrapS (by omega) (by omega)
  have w2 : wrap64 (2 + y) = 2 + y := wrapS (by omega) (by omega)
  have hm : (2 + x) * (2 + y) ≤ 6 * 5 := Int.mul_le_mul (by omega) (by omega) (by omega) (by omega)
  have hp : 0 < (2 + x) * (2 + y) := Int.mul_pos (by omega) (by omega)
  have w3 : wrap64 ((2 + x) * (2 + y)) = (2 + x) * (2 + y) := wrapS (by omega) (by omega)
  have key : ∀ (n : Nat) (l : List Int) (j i h : Int), 0 ≤ j → j + n = (2 + x) * (2 + y) → (l.length : Int) = j → 0 ≤ i → ∃ l' i' h', Ev (fun k => spec_l4Draw.l0 k j b i h (2 + x) (2 + y) l) (2 + x, 2 + y, l', i', h') ∧ 0 < l'.length ∧ l'.length ≤ 30 ∧ 0 ≤ i' := by
    intro n
    induction n with
    | zero =>
      intro l j i h hj hjn hlen hi
      refine ⟨l.set (0 : Int).toNat 0, i, h, Ev.step (f := fun _ => some (2 + x, 2 + y, l.set (0 : Int).toNat 0, i, h)) (fun k => ?_) (Ev.now _), by rw [List.length_set]; omega, by rw [List.length_set]; omega, hi⟩
      simp only [spec_l4Draw.l0, w3]
      rw [if_neg (by omega), if_pos (by omega)]
    | succ n ih =>
      intro l j i h hj hjn hlen hi
      obtain ⟨z, i3, h3, e3, _, g3⟩ := l1Int_ex b i h [0, 0, 0, 0, 1, 2] (by simp) hi hb
      obtain ⟨l', i', h', hE, c1, c2, c3⟩ := ih (l ++ [z]) (j + 1) i3 h3 (by omega) (by omega) (by rw [List.length_append, List.length_singleton]; omega) g3
      refine ⟨l', i', h', Ev.step (fun k => ?_) hE, c1, c2, c3⟩
      simp only [spec_l4Draw.l0, w3, e3, Option.bind_some]
      rw [if_pos (by omega), if_pos (by omega), wrapS (x := j + 1) (by omega) (by omega)]
  obtain ⟨l', i', h', hE, c1, c2, c3⟩ := key ((2 + x) * (2 + y)).toNat [] 0 i2 h2 (by omega) (by omega) rfl g2
  refine ⟨2 + x, 2 + y, l', i', h', ?_, ⟨by omega, by omega⟩, ⟨by omega, by omega⟩, c1, c2, c3⟩
  rw [e1]
  simp only [Option.bind_some, e2, w1, w2]
  exact hE
theorem l4Any_ex (b : List Int) (i h : Int) (hi : 0 ≤ i) (hb : b.length ≤ 1048576) : ∃ w hh l i' h', Ev (fun k => spec_l4Any.f k b i h) (w, hh, l, i', h') ∧ (-9223372036854775808 ≤ w ∧ w ≤ 9223372036854775807) ∧ l.length ≤ 30 ∧ 0 ≤ i' := by
  unfold spec_l4Any.f
  obtain ⟨w, hh, l, i1, h1, hE, bw, bh, bl, bl2, g1⟩ := l4Draw_ex b i h hi hb
  obtain ⟨x, i2, h2, e2, _, b2, g2⟩ := l1Below_ex b i1 h1 14 g1 hb
  obtain ⟨y, i3, h3, e3, b3, g3⟩ := l4Raw_ex b i2 h2 g2 hb
  obtain ⟨z, i4, h4, e4, b4, g4⟩ := l1Int_ex b i2 h2 [(-1), 2, 3] (by simp) g2 hb
  by_cases c0 : x = 0
  · refine ⟨y, hh, l, i3, h3, Ev.bind hE ?_, b3, bl2, g3⟩
    simp only [e2, Option.bind_some, if_pos c0, e3]
    exact Ev.now _
  by_cases c1 : x = 1
  · refine ⟨w, y, l, i3, h3, Ev.bind hE ?_, by omega, bl2, g3⟩
    simp only [e2, Option.bind_some, if_neg c0, if_pos c1, e3]
    exact Ev.now _
  by_cases c2 : x = 2
  · refine ⟨w, hh, l.set (0 : Int).toNat z, i4, h4, Ev.bind hE ?_, by omega, by rw [List.length_set]; exact bl2, g4⟩
    simp only [e2, Option.bind_some, if_neg c0, if_neg c1, if_pos c2, e4, if_pos (show (0 : Int) < (l.length : Int) from by omega)]
    exact Ev.now _
  by_cases c3 : x = 3
  · refine ⟨w, hh, l.drop (1 : Int).toNat, i2, h2, Ev.bind hE ?_, by omega, by rw [List.length_drop]; omega, g2⟩
    simp only [e2, Option.bind_some, if_neg c0, if_neg c1, if_neg c2, if_pos c3, if_pos (show (1 : Int) ≤ (l.length : Int) from by omega)]
    exact Ev.now _
  · refine ⟨w, hh, l, i2, h2, Ev.bind hE ?_, by omega, bl2, g2⟩
    simp only [e2, Option.bind_some, if_neg c0, if_neg c1, if_neg c2, if_neg c3]
    exact Ev.now _

theorem impl_InRange_is (a b c : Int) : impl_InRange.f a b c = some (decide (b ≤ a ∧ a ≤ c)) := by
  unfold impl_InRange.f
  by_cases h : b ≤ a <;> simp [h]

theorem spec_l1In_is (a b c : Int) : spec_l1In.f a b c = some (decide (b ≤ a ∧ a ≤ c)) := by
  unfold spec_l1In.f
  by_cases h : b ≤ a <;> simp [h]

def okCells (l : List Int) : Bool := l.all fun x => decide (0 ≤ x ∧ x ≤ 2)
def isLand (w h : Int) (l : List Int) : Bool := decide ((1 ≤ w ∧ w ≤ 8) ∧ (1 ≤ h ∧ h ≤ 8) ∧ (l.length : Int) = w * h) && okCells l
theorem isLand_true {w h : Int} {l : List Int} (e : isLand w h l = true) : (1 ≤ w ∧ w ≤ 8) ∧ (1 ≤ h ∧ h ≤ 8) ∧ (l.length : Int) = w * h ∧ l.length ≤ 64 ∧ okCells l = true := by
  simp only [isLand, Bool.and_eq_true, decide_eq_true_eq] at e
  obtain ⟨⟨h1, h2, h3⟩, h4⟩ := e
  refine ⟨h1, h2, h3, ?_, h4⟩
  have : w * h ≤ 8 * 8 := Int.mul_le_mul h1.2 h2.2 (by omega) (by omega)
  omega
theorem wrap_wh {w h : Int} (h1 : 1 ≤ w ∧ w ≤ 8) (h2 : 1 ≤ h ∧ h ≤ 8) : wrap64 (w * h) = w * h := by
  have u : w * h ≤ 8 * 8 := Int.mul_le_mul h1.2 h2.2 (by omega) (by omega)
  have v : 0 ≤ w * h := Int.mul_nonneg (by omega) (by omega)
  exact wrapS (by omega) (by omega)

def isCell (w h : Int) (l : List Int) (n : Int) : Bool := isLand w h l && decide (0 ≤ n ∧ n ≤ (l.length : Int) - 1)
theorem isCell_true {w h : Int} {l : List Int} {n : Int} (e : isCell w h l n = true) : 0 ≤ n ∧ n < l.length := by
  simp only [isCell, Bool.and_eq_true, decide_eq_true_eq] at e
  omega
theorem isCell_land {w h : Int} {l : List Int} {n : Int} (e : isCell w h l n = true) : isLand w h l = true := by
  simp only [isCell, Bool.and_eq_true] at e
  exact e.1

def isOpen (w h : Int) (l : List Int) (n : Int) : Bool := isCell w h l n && (rd l n != 2)

def absI (x : Int) : Int := if x < 0 then -x else x
def apart (w h : Int) (l : List Int) (a b : Int) : Int := if isCell w h l a = true ∧ isCell w h l b = true then absI (a % w - b % w) + absI (a / w - b / w) else -1
theorem cell_bounds {w h : Int} {l : List Int} {a : Int} (e : isCell w h l a = true) : 1 ≤ w ∧ w ≤ 8 ∧ 0 ≤ a ∧ a < 64 ∧ 0 ≤ a % w ∧ a % w < 8 ∧ 0 ≤ a / w ∧ a / w < 64 := by
  obtain ⟨h1, _, _, h4, _⟩ := isLand_true (isCell_land e)
  obtain ⟨h5, h6⟩ := isCell_true e
  have m1 := Int.emod_nonneg a (show w ≠ 0 by omega)
  have m2 := Int.emod_lt_of_pos a (show 0 < w by omega)
  have d1 := Int.ediv_nonneg h5 (show 0 ≤ w by omega)
  have d2 : a / w ≤ a := Int.ediv_le_self w h5
  exact ⟨h1.1, h1.2, h5, by omega, m1, by omega, d1, by omega⟩

/-- The open cells beside a cell. -/
def near (w : Int) (l : List Int) (n : Int) : List Int :=
  (if w ≤ n ∧ rd l (n - w) ≠ 2 then [n - w] else []) ++ ((if 0 < n % w ∧ rd l (n - 1) ≠ 2 then [n - 1] else []) ++ ((if n % w < w - 1 ∧ rd l (n + 1) ≠ 2 then [n + 1] else []) ++ (if n + w < l.length ∧ rd l (n + w) ≠ 2 then [n + w] else [])))
theorem near_length (w : Int) (l : List Int) (n : Int) : (near w l n).length ≤ 4 := by
  unfold near
  split <;> split <;> split <;> split <;> simp
theorem w8 {w : Int} (h : 1 ≤ w ∧ w ≤ 8) : w = 1 ∨ w = 2 ∨ w = 3 ∨ w = 4 ∨ w = 5 ∨ w = 6 ∨ w = 7 ∨ w = 8 := by omega
def step (w n m : Int) : Int := absI (n % w - m % w) + absI (n / w - m / w)
theorem step_up (w n : Int) (h : 1 ≤ w ∧ w ≤ 8) : step w n (n - w) = 1 := by
  unfold step absI
  rcases w8 h with rfl | rfl | rfl | rfl | rfl | rfl | rfl | rfl <;> split <;> split <;> omega
theorem step_down (w n : Int) (h : 1 ≤ w ∧ w ≤ 8) : step w n (n + w) = 1 := by
  unfold step absI
  rcases w8 h with rfl | rfl | rfl | rfl | rfl | rfl | rfl | rfl <;> split <;> split <;> omega
theorem step_left (w n : Int) (h : 1 ≤ w ∧ w ≤ 8) : step w n (n - 1) = 1 ↔ (0 < n % w ∨ w = 1) := by
  unfold step absI
  rcases w8 h with rfl | rfl | rfl | rfl | rfl | rfl | rfl | rfl <;> split <;> split <;> omega
theorem step_right (w n : Int) (h : 1 ≤ w ∧ w ≤ 8) : step w n (n + 1) = 1 ↔ (n % w < w - 1 ∨ w = 1) := by
  unfold step absI
  rcases w8 h with rfl | rfl | rfl | rfl | rfl | rfl | rfl | rfl <;> split <;> split <;> omega
theorem step_four (w n m : Int) (h : 1 ≤ w ∧ w ≤ 8) (e : step w n m = 1) : m = n - w ∨ m = n - 1 ∨ m = n + 1 ∨ m = n + w := by
  unfold step absI at e
  rcases w8 h with rfl | rfl | rfl | rfl | rfl | rfl | rfl | rfl <;> split at e <;> split at e <;> omega
theorem step_comm (w n m : Int) : step w n m = step w m n := by
  unfold step absI
  split <;> split <;> split <;> split <;> omega
theorem apart_step {w h : Int} {l : List Int} {a b : Int} (ha : isCell w h l a = true) (hb : isCell w h l b = true) : apart w h l a b = step w a b := by
  unfold apart step
  rw [if_pos ⟨ha, hb⟩]
theorem isCell_mk {w h : Int} {l : List Int} {n : Int} (hl : isLand w h l = true) (h0 : 0 ≤ n) (h1 : n < l.length) : isCell w h l n = true := by
  simp only [isCell, hl, Bool.true_and, decide_eq_true_eq]
  omega
theorem isOpen_iff {w h : Int} {l : List Int} (hl : isLand w h l = true) (n : Int) : isOpen w h l n = true ↔ 0 ≤ n ∧ n < l.length ∧ rd l n ≠ 2 := by
  simp only [isOpen, isCell, hl, Bool.true_and, Bool.and_eq_true, decide_eq_true_eq, bne_iff_ne]
  omega
theorem mod_len {w h : Int} {l : List Int} (hl : isLand w h l = true) (n : Int) (h0 : 0 ≤ n) (h1 : n < l.length) (h2 : n % w < w - 1) : n + 1 < l.length := by
  obtain ⟨hw, hh, hlen, _, _⟩ := isLand_true hl
  have e := Int.emod_add_mul_ediv n w
  have hdiv : n / w < h := by
    refine Int.ediv_lt_of_lt_mul (by omega) ?_
    rw [Int.mul_comm]
    omega
  have h3 : w * (n / w + 1) ≤ w * h := Int.mul_le_mul_of_nonneg_left (by omega) (by omega)
  rw [Int.mul_add, Int.mul_one] at h3
  omega
/-- What is beside a cell: what is open, one step away. -/
theorem mem_near {w h : Int} {l : List Int} (hl : isLand w h l = true) {n : Int} (h0 : 0 ≤ n) (h1 : n < l.length) (m : Int) : m ∈ near w l n ↔ isOpen w h l m = true ∧ step w n m = 1 := by
  obtain ⟨hw, hh, hlen, _, _⟩ := isLand_true hl
  have m1 := Int.emod_nonneg n (show w ≠ 0 by omega)
  have m2 : n % w ≤ n := by
    have := Int.emod_add_mul_ediv n w
    have := Int.mul_nonneg (show 0 ≤ w by omega) (Int.ediv_nonneg h0 (show 0 ≤ w by omega))
    omega
  have hx : m ∈ near w l n ↔ (m = n - w ∧ w ≤ n ∧ rd l (n - w) ≠ 2) ∨ (m = n - 1 ∧ 0 < n % w ∧ rd l (n - 1) ≠ 2) ∨ (m = n + 1 ∧ n % w < w - 1 ∧ rd l (n + 1) ≠ 2) ∨ (m = n + w ∧ n + w < l.length ∧ rd l (n + w) ≠ 2) := by
    unfold near
    simp only [List.mem_append]
    have q : ∀ (c : Prop) [Decidable c] (x : Int), m ∈ (if c then [x] else []) ↔ (m = x ∧ c) := by
      intro c _ x
      by_cases hc : c <;> simp [hc]
    rw [q, q, q, q]
  rw [hx, isOpen_iff hl]
  constructor
  · rintro (⟨rfl, h2, h3⟩ | ⟨rfl, h2, h3⟩ | ⟨rfl, h2, h3⟩ | ⟨rfl, h2, h3⟩)
    · exact ⟨⟨by omega, by omega, h3⟩, step_up w n hw⟩
    · exact ⟨⟨by omega, by omega, h3⟩, (step_left w n hw).2 (Or.inl h2)⟩
    · exact ⟨⟨by omega, mod_len hl n h0 h1 h2, h3⟩, (step_right w n hw).2 (Or.inl h2)⟩
    · exact ⟨⟨by omega, h2, h3⟩, step_down w n hw⟩
  · rintro ⟨⟨h2, h3, h4⟩, h5⟩
    rcases step_four w n m hw h5 with rfl | rfl | rfl | rfl
    · exact Or.inl ⟨rfl, by omega, h4⟩
    · rcases (step_left w n hw).1 h5 with h6 | h6
      · exact Or.inr (Or.inl ⟨rfl, h6, h4⟩)
      · subst h6
        exact Or.inl ⟨rfl, by omega, h4⟩
    · rcases (step_right w n hw).1 h5 with h6 | h6
      · exact Or.inr (Or.inr (Or.inl ⟨rfl, h6, h4⟩))
      · subst h6
        exact Or.inr (Or.inr (Or.inr ⟨rfl, h3, h4⟩))
    · exact Or.inr (Or.inr (Or.inr ⟨rfl, h3, h4⟩))
theorem near_asc (w : Int) (l : List Int) (n : Int) (hw : 1 ≤ w) : (near w l n).Pairwise (· < ·) := by
  unfold near
  by_cases hw1 : w = 1
  · subst hw1
    rw [if_neg (c := 0 < n % 1 ∧ rd l (n - 1) ≠ 2) (by omega), if_neg (c := n % 1 < 1 - 1 ∧ rd l (n + 1) ≠ 2) (by omega)]
    split <;> split <;> simp
    omega
  · split <;> split <;> split <;> split <;> simp <;> omega

theorem impl_allIn_ev (l : List Int) (hl : l.length ≤ 17592186044416) : Ev (fun k => impl_allIn.f k l 0 2) (okCells l) := by
  have key : ∀ (d : Nat) (i : Int), 0 ≤ i → i + d = l.length → Ev (fun k => impl_allIn.l0 k 0 2 l (l.length : Int) i) (okCells (l.drop i.toNat)) := by
    intro d
    induction d with
    | zero =>
      intro i h0 hi
      rw [List.drop_eq_nil_of_le (by omega)]
      refine Ev.step (f := fun _ => some true) (fun k => ?_) (Ev.now _)
      simp only [impl_allIn.l0]
      rw [if_neg (by omega)]
    | succ d ih =>
      intro i h0 hi
      have hi2 := ih (i + 1) (by omega) (by omega)
      rw [drop_rd l i h0 (by omega)]
      by_cases c : 0 ≤ rd l i ∧ rd l i ≤ 2
      · rw [show okCells (rd l i :: l.drop (i + 1).toNat) = okCells (l.drop (i + 1).toNat) from by simp [okCells, c]]
        refine Ev.step (f := fun k => impl_allIn.l0 k 0 2 l (l.length : Int) (i + 1)) (fun k => ?_) hi2
        simp only [impl_allIn.l0, impl_InRange_is, Option.bind_some, decide_eq_true c, if_true]
        rw [if_pos (by omega), if_pos h0, if_pos (by omega), wrapS (by omega) (by omega)]
      · rw [show okCells (rd l i :: l.drop (i + 1).toNat) = false from by simp [okCells, c]]
        refine Ev.step (f := fun _ => some false) (fun k => ?_) (Ev.now _)
        simp only [impl_allIn.l0, impl_InRange_is, Option.bind_some, decide_eq_false c, Bool.false_eq_true, if_false]
        rw [if_pos (by omega), if_pos h0, if_pos (by omega)]
  exact key l.length 0 (by omega) (by omega)
theorem impl_IsLand_ev (w h : Int) (l : List Int) (hl : l.length ≤ 17592186044416) : Ev (fun k => impl_IsLand.f k w h l) (isLand w h l) := by
  unfold impl_IsLand.f
  simp only [impl_InRange_is, Option.bind_some]
  by_cases c1 : 1 ≤ w ∧ w ≤ 8
  · by_cases c2 : 1 ≤ h ∧ h ≤ 8
    · simp only [decide_eq_true c1, decide_eq_true c2, if_true, wrap_wh c1 c2]
      by_cases c3 : (l.length : Int) = w * h
      · simp only [if_pos c3]
        rw [show isLand w h l = okCells l from by simp [isLand, c1, c2, c3]]
        exact Ev.bind (impl_allIn_ev l hl) (Ev.now _)
      · simp only [if_neg c3]
        rw [show isLand w h l = false from by simp [isLand, c3]]
        exact Ev.now _
    · simp only [decide_eq_true c1, decide_eq_false c2, if_true, Bool.false_eq_true, if_false]
      rw [show isLand w h l = false from by simp only [isLand, c2, false_and, and_false, decide_false, Bool.false_and]]
      exact Ev.now _
  · simp only [decide_eq_false c1, Bool.false_eq_true, if_false]
    rw [show isLand w h l = false from by simp only [isLand, c1, false_and, decide_false, Bool.false_and]]
    exact Ev.now _

theorem impl_IsCell_ev (w h : Int) (l : List Int) (n : Int) (hl : l.length ≤ 17592186044416) : Ev (fun k => impl_IsCell.f k w h l n) (isCell w h l n) := by
  unfold impl_IsCell.f
  refine Ev.bind (impl_IsLand_ev w h l hl) ?_
  try dsimp only
  cases e : isLand w h l with
  | false =>
    rw [show isCell w h l n = false from by simp [isCell, e]]
    simp only [Bool.false_eq_true, if_false]
    exact Ev.now _
  | true =>
    rw [show isCell w h l n = decide (0 ≤ n ∧ n ≤ (l.length : Int) - 1) from by simp [isCell, e]]
    simp only [if_true, impl_InRange_is, Option.bind_some, wrapS (x := (l.length : Int) - 1) (by omega) (by omega)]
    exact Ev.now _

theorem impl_IsOpen_ev (w h : Int) (l : List Int) (n : Int) (hl : l.length ≤ 17592186044416) : Ev (fun k => impl_IsOpen.f k w h l n) (isOpen w h l n) := by
  unfold impl_IsOpen.f
  refine Ev.bind (impl_IsCell_ev w h l n hl) ?_
  try dsimp only
  cases e : isCell w h l n with
  | false =>
    rw [show isOpen w h l n = false from by simp [isOpen, e]]
    simp only [Bool.false_eq_true, if_false]
    exact Ev.now _
  | true =>
    obtain ⟨h0, h1⟩ := isCell_true e
    rw [show isOpen w h l n = (rd l n != 2) from by simp [isOpen, e]]
    simp only [if_true, if_pos h0, if_pos h1]
    exact Ev.now _

theorem impl_Apart_ev (w h : Int) (l : List Int) (a b : Int) (hl : l.length ≤ 17592186044416) : Ev (fun k => impl_Apart.f k w h l a b) (apart w h l a b) := by
  have jt : Ev (fun k => impl_Apart.j0 k a b true w h l) (-1) := by
    refine Ev.step (f := fun _ => some (-1)) (fun k => ?_) (Ev.now _)
    simp only [impl_Apart.j0, if_true]
  unfold impl_Apart.f
  refine Ev.bind (impl_IsCell_ev w h l a hl) ?_
  try dsimp only
  cases ea : isCell w h l a with
  | false =>
    rw [show apart w h l a b = -1 from by simp [apart, ea]]
    simp only [Bool.false_eq_true, if_false]
    exact jt
  | true =>
    simp only [if_true]
    refine Ev.bind (impl_IsCell_ev w h l b hl) ?_
    try dsimp only
    cases eb : isCell w h l b with
    | false =>
      rw [show apart w h l a b = -1 from by simp [apart, eb]]
      exact jt
    | true =>
      obtain ⟨w1, w2, a1, a2, a3, a4, a5, a6⟩ := cell_bounds ea
      obtain ⟨_, _, b1, b2, b3, b4, b5, b6⟩ := cell_bounds eb
      rw [show apart w h l a b = absI (a % w - b % w) + absI (a / w - b / w) from by simp [apart, ea, eb]]
      refine Ev.step (f := fun _ => some (absI (a % w - b % w) + absI (a / w - b / w))) (fun k => ?_) (Ev.now _)
      have e1 := Int.tmod_eq_emod_of_nonneg a1 (b := w)
      have e2 := Int.tmod_eq_emod_of_nonneg b1 (b := w)
      have e3 := Int.tdiv_eq_ediv_of_nonneg a1 (b := w)
      have e4 := Int.tdiv_eq_ediv_of_nonneg b1 (b := w)
      simp only [impl_Apart.j0, Bool.not_true, Bool.false_eq_true, if_false, impl_size.f, Option.bind_some, e1, e2, e3, e4]
      rw [if_neg (by omega)]
      generalize a % w = p at *
      generalize b % w = q at *
      generalize a / w = r at *
      generalize b / w = s at *
      rw [wrapS (x := p - q) (by omega) (by omega), wrapS (x := r) (by omega) (by omega), wrapS (x := s) (by omega) (by omega), wrapS (x := r - s) (by omega) (by omega), wrapS (x := -(p - q)) (by omega) (by omega), wrapS (x := -(r - s)) (by omega) (by omega)]
      have f1 : mx (p - q) (-(p - q)) = absI (p - q) := by unfold mx absI; split <;> split <;> omega
      have f2 : mx (r - s) (-(r - s)) = absI (r - s) := by unfold mx absI; split <;> split <;> omega
      rw [f1, f2]
      have g1 : 0 ≤ absI (p - q) ∧ absI (p - q) ≤ 100 := by unfold absI; split <;> omega
      have g2 : 0 ≤ absI (r - s) ∧ absI (r - s) ≤ 100 := by unfold absI; split <;> omega
      rw [wrapS (by omega) (by omega)]

theorem compact_asc (l : List Int) (h : l.Pairwise (· < ·)) : Go.Lib.compact l = l := by
  refine Go.Lib.compact_all l (fun j hj => ?_)
  simp only [Go.Lib.keeps, decide_eq_true_eq]
  by_cases h0 : j = 0
  · exact Or.inl h0
  · refine Or.inr ?_
    have hlt := List.pairwise_iff_getElem.1 h (j - 1) j (by omega) hj (by omega)
    rw [getElem!_pos l.toArray j (by simpa using hj), getElem!_pos l.toArray (j - 1) (by simp; omega)]
    simp only [List.getElem_toArray]
    omega
theorem compact_two (x : Int) : Go.Lib.compact [x, x] = [x] := by
  simp [Go.Lib.compact, Go.Lib.compactUpTo, Go.Lib.keeps, List.range_succ]
theorem compact_four (x y : Int) (h : x ≠ y) : Go.Lib.compact [x, x, y, y] = [x, y] := by
  simp [Go.Lib.compact, Go.Lib.compactUpTo, Go.Lib.keeps, List.range_succ, h, Ne.symm h]
def nearOk (w h : Int) (l : List Int) (n m : Int) : Bool := isOpen w h l m && (apart w h l n m == 1)
theorem impl_Near_loop (w h : Int) (l : List Int) (n : Int) (hl : l.length ≤ 64) (ys : List Int) (hys : ys.length ≤ 4) : ∀ (d : Nat) (o : List Int) (i : Int), 0 ≤ i → i + d = ys.length → o.length ≤ i.toNat → Ev (fun k => impl_Near.l0 k n o ys (ys.length : Int) i w h l) (Go.Lib.compact (o ++ (ys.drop i.toNat).filter (nearOk w h l n))) := by
  intro d
  induction d with
  | zero =>
    intro o i h0 hi ho
    rw [List.drop_eq_nil_of_le (by omega), List.filter_nil, List.append_nil]
    refine Ev.step (f := fun _ => some (Go.Lib.compact o)) (fun k => ?_) (Ev.now _)
    simp only [impl_Near.l0, slices_Compact_int_int.f, Option.bind_some]
    rw [if_neg (by omega)]
  | succ d ih =>
    intro o i h0 hi ho
    have hw : wrap64 (i + 1) = i + 1 := wrapS (by omega) (by omega)
    rw [drop_rd ys i h0 (by omega), List.filter_cons]
    by_cases c1 : isOpen w h l (rd ys i) = true
    · by_cases c2 : apart w h l n (rd ys i) = 1
      · rw [if_pos (by simp [nearOk, c1, c2])]
        have hi2 := ih (o ++ [rd ys i]) (i + 1) (by omega) (by omega) (by simp; omega)
        rw [List.append_assoc, List.singleton_append] at hi2
        refine Ev.step (f := fun k => (impl_IsOpen.f k w h l (rd ys i)).bind fun t => if t = true then (impl_Apart.f k w h l n (rd ys i)).bind fun t2 => (if t2 = 1 then impl_Near.l0 k n (o ++ [rd ys i]) ys (ys.length : Int) (i + 1) w h l else impl_Near.l0 k n o ys (ys.length : Int) (i + 1) w h l) else impl_Near.l0 k n o ys (ys.length : Int) (i + 1) w h l) (fun k => ?_) (Ev.bind (impl_IsOpen_ev w h l _ (by omega)) ?_)
        · simp only [impl_Near.l0, hw]
          rw [if_pos (by omega), if_pos h0, if_pos (by omega)]
          simp only [if_pos (show o.length < 17592186044416 from by omega)]
        · rw [c1]
          simp only [if_true]
          refine Ev.bind (impl_Apart_ev w h l n _ (by omega)) ?_
          rw [c2]
          simp only [if_true]
          exact hi2
      · rw [if_neg (by simp [nearOk, c2])]
        have hi2 := ih o (i + 1) (by omega) (by omega) (by omega)
        refine Ev.step (f := fun k => (impl_IsOpen.f k w h l (rd ys i)).bind fun t => if t = true then (impl_Apart.f k w h l n (rd ys i)).bind fun t2 => (if t2 = 1 then impl_Near.l0 k n (o ++ [rd ys i]) ys (ys.length : Int) (i + 1) w h l else impl_Near.l0 k n o ys (ys.length : Int) (i + 1) w h l) else impl_Near.l0 k n o ys (ys.length : Int) (i + 1) w h l) (fun k => ?_) (Ev.bind (impl_IsOpen_ev w h l _ (by omega)) ?_)
        · simp only [impl_Near.l0, hw]
          rw [if_pos (by omega), if_pos h0, if_pos (by omega)]
          simp only [if_pos (show o.length < 17592186044416 from by omega)]
        · rw [c1]
          simp only [if_true]
          refine Ev.bind (impl_Apart_ev w h l n _ (by omega)) ?_
          simp only [if_neg c2]
          exact hi2
    · rw [if_neg (by simp [nearOk, c1])]
      have hi2 := ih o (i + 1) (by omega) (by omega) (by omega)
      rw [Bool.not_eq_true] at c1
      refine Ev.step (f := fun k => (impl_IsOpen.f k w h l (rd ys i)).bind fun t => if t = true then (impl_Apart.f k w h l n (rd ys i)).bind fun t2 => (if t2 = 1 then impl_Near.l0 k n (o ++ [rd ys i]) ys (ys.length : Int) (i + 1) w h l else impl_Near.l0 k n o ys (ys.length : Int) (i + 1) w h l) else impl_Near.l0 k n o ys (ys.length : Int) (i + 1) w h l) (fun k => ?_) (Ev.bind (impl_IsOpen_ev w h l _ (by omega)) ?_)
      · simp only [impl_Near.l0, hw]
        rw [if_pos (by omega), if_pos h0, if_pos (by omega)]
        simp only [if_pos (show o.length < 17592186044416 from by omega)]
      · rw [c1]
        simp only [Bool.false_eq_true, if_false]
        exact hi2
/-- The four that are tried, those that are beside, each once. -/
theorem near_filter {w h : Int} {l : List Int} {n : Int} (hc : isCell w h l n = true) : Go.Lib.compact ([n - w, n - 1, n + 1, n + w].filter (nearOk w h l n)) = near w l n := by
  have hl := isCell_land hc
  obtain ⟨hw, hh, hlen, h64, _⟩ := isLand_true hl
  obtain ⟨h0, h1⟩ := isCell_true hc
  have m1 := Int.emod_nonneg n (show w ≠ 0 by omega)
  have m2 : n % w ≤ n := by
    have := Int.emod_add_mul_ediv n w
    have := Int.mul_nonneg (show 0 ≤ w by omega) (Int.ediv_nonneg h0 (show 0 ≤ w by omega))
    omega
  have ok : ∀ m, nearOk w h l n m = true ↔ (0 ≤ m ∧ m < l.length ∧ rd l m ≠ 2) ∧ step w n m = 1 := by
    intro m
    unfold nearOk
    rw [Bool.and_eq_true, isOpen_iff hl, beq_iff_eq]
    constructor
    · rintro ⟨ho, ha⟩
      exact ⟨ho, by rw [← apart_step hc (isCell_mk hl ho.1 ho.2.1)]; exact ha⟩
    · rintro ⟨ho, ha⟩
      exact ⟨ho, by rw [apart_step hc (isCell_mk hl ho.1 ho.2.1)]; exact ha⟩
  by_cases w1 : w = 1
  · subst w1
    have hA : nearOk 1 h l n (n - 1) = decide ((1 : Int) ≤ n ∧ rd l (n - 1) ≠ 2) := by
      rw [Bool.eq_iff_iff, ok, decide_eq_true_eq]
      have := step_up 1 n hw
      constructor
      · rintro ⟨⟨a, b, c⟩, _⟩; exact ⟨by omega, c⟩
      · rintro ⟨a, c⟩; exact ⟨⟨by omega, by omega, c⟩, this⟩
    have hD : nearOk 1 h l n (n + 1) = decide (n + 1 < (l.length : Int) ∧ rd l (n + 1) ≠ 2) := by
      rw [Bool.eq_iff_iff, ok, decide_eq_true_eq]
      have := step_down 1 n hw
      constructor
      · rintro ⟨⟨a, b, c⟩, _⟩; exact ⟨b, c⟩
      · rintro ⟨a, c⟩; exact ⟨⟨by omega, a, c⟩, this⟩
    unfold near
    rw [if_neg (c := 0 < n % 1 ∧ rd l (n - 1) ≠ 2) (by omega), if_neg (c := n % 1 < 1 - 1 ∧ rd l (n + 1) ≠ 2) (by omega)]
    simp only [List.filter_cons, List.filter_nil, hA, hD]
    by_cases cA : (1 : Int) ≤ n ∧ rd l (n - 1) ≠ 2 <;> by_cases cD : n + 1 < (l.length : Int) ∧ rd l (n + 1) ≠ 2
    · simp only [decide_eq_true cA, decide_eq_true cD, if_true, if_pos cA, if_pos cD]
      rw [compact_four _ _ (by omega)]
      rfl
    · simp only [decide_eq_true cA, decide_eq_false cD, if_true, if_pos cA, if_neg cD, Bool.false_eq_true, if_false]
      rw [compact_two]
      rfl
    · simp only [decide_eq_false cA, decide_eq_true cD, if_true, if_neg cA, if_pos cD, Bool.false_eq_true, if_false]
      rw [compact_two]
      rfl
    · simp only [decide_eq_false cA, decide_eq_false cD, if_neg cA, if_neg cD, Bool.false_eq_true, if_false]
      rfl
  · have hA : nearOk w h l n (n - w) = decide (w ≤ n ∧ rd l (n - w) ≠ 2) := by
      rw [Bool.eq_iff_iff, ok, decide_eq_true_eq]
      have := step_up w n hw
      constructor
      · rintro ⟨⟨a, b, c⟩, _⟩; exact ⟨by omega, c⟩
      · rintro ⟨a, c⟩; exact ⟨⟨by omega, by omega, c⟩, this⟩
    have hB : nearOk w h l n (n - 1) = decide (0 < n % w ∧ rd l (n - 1) ≠ 2) := by
      rw [Bool.eq_iff_iff, ok, decide_eq_true_eq, step_left w n hw]
      constructor
      · rintro ⟨⟨a, b, c⟩, d⟩; exact ⟨by omega, c⟩
      · rintro ⟨a, c⟩; exact ⟨⟨by omega, by omega, c⟩, Or.inl a⟩
    have hC : nearOk w h l n (n + 1) = decide (n % w < w - 1 ∧ rd l (n + 1) ≠ 2) := by
      rw [Bool.eq_iff_iff, ok, decide_eq_true_eq, step_right w n hw]
      constructor
      · rintro ⟨⟨a, b, c⟩, d⟩; exact ⟨by omega, c⟩
      · rintro ⟨a, c⟩; exact ⟨⟨by omega, mod_len hl n h0 h1 a, c⟩, Or.inl a⟩
    have hD : nearOk w h l n (n + w) = decide (n + w < (l.length : Int) ∧ rd l (n + w) ≠ 2) := by
      rw [Bool.eq_iff_iff, ok, decide_eq_true_eq]
      have := step_down w n hw
      constructor
      · rintro ⟨⟨a, b, c⟩, _⟩; exact ⟨b, c⟩
      · rintro ⟨a, c⟩; exact ⟨⟨by omega, a, c⟩, this⟩
    have e : [n - w, n - 1, n + 1, n + w].filter (nearOk w h l n) = near w l n := by
      unfold near
      simp only [List.filter_cons, List.filter_nil, hA, hB, hC, hD, decide_eq_true_eq]
      split <;> split <;> split <;> split <;> rfl
    rw [e]
    exact compact_asc _ (near_asc w l n hw.1)
theorem impl_Near_ev (w h : Int) (l : List Int) (n : Int) (hl : l.length ≤ 1048576) (hw : -9223372036854775808 ≤ w ∧ w ≤ 9223372036854775807) : Ev (fun k => impl_Near.f k w h l n) (if isCell w h l n = true then near w l n else []) := by
  unfold impl_Near.f
  refine Ev.bind (impl_IsCell_ev w h l n (by omega)) ?_
  by_cases hc : isCell w h l n = true
  · have hld := isCell_land hc
    obtain ⟨hw8, hh, hlen, h64, _⟩ := isLand_true hld
    obtain ⟨h0, h1⟩ := isCell_true hc
    rw [hc]
    simp only [if_true, Option.bind_some]
    rw [wrapS (x := n - w) (by omega) (by omega), wrapS (x := n - 1) (by omega) (by omega), wrapS (x := n + 1) (by omega) (by omega), wrapS (x := n + w) (by omega) (by omega)]
    have hh := impl_Near_loop w h l n h64 [n - w, n - 1, n + 1, n + w] (by simp) 4 [] 0 (by omega) (by simp) (by simp)
    rw [show (0 : Int).toNat = 0 from rfl, List.drop_zero, List.nil_append, near_filter hc] at hh
    exact hh
  · rw [Bool.not_eq_true] at hc
    rw [hc]
    simp only [Bool.false_eq_true, if_false]
    exact Ev.now _

def ccGo (k : Int) (s : Int) (l : List Int) : Int := l.foldl (fun s c => if c = k then wrap64 (s + 1) else s) s
def countCells (w h : Int) (l : List Int) (k : Int) : Int := if isLand w h l = true then ccGo k 0 l else 0

theorem impl_CountCells_ev (w h : Int) (l : List Int) (n : Int) (hl : l.length ≤ 17592186044416) : Ev (fun k => impl_CountCells.f k w h l n) (countCells w h l n) := by
  have key : ∀ (d : Nat) (s i : Int), 0 ≤ i → i + d = l.length → Ev (fun k => impl_CountCells.l0 k n s l (l.length : Int) i) (ccGo n s (l.drop i.toNat)) := by
    intro d
    induction d with
    | zero =>
      intro s i h0 hi
      rw [List.drop_eq_nil_of_le (by omega)]
      refine Ev.step (f := fun _ => some s) (fun k => ?_) (Ev.now _)
      simp only [impl_CountCells.l0]
      rw [if_neg (by omega)]
    | succ d ih =>
      intro s i h0 hi
      rw [drop_rd l i h0 (by omega)]
      refine Ev.step (f := fun k => impl_CountCells.l0 k n (if rd l i = n then wrap64 (s + 1) else s) l (l.length : Int) (i + 1)) (fun k => ?_) (ih _ (i + 1) (by omega) (by omega))
      simp only [impl_CountCells.l0]
      rw [if_pos (by omega), if_pos h0, if_pos (by omega), wrapS (x := i + 1) (by omega) (by omega)]
      split <;> rfl
  unfold impl_CountCells.f countCells
  refine Ev.bind (impl_IsLand_ev w h l hl) ?_
  try dsimp only
  cases isLand w h l with
  | false => simp only [Bool.false_eq_true, if_false]; exact Ev.now _
  | true => simp only [if_true]; exact key l.length 0 0 (by omega) (by omega)

theorem spec_IsLand_loop (w h : Int) (l : List Int) (hl : l.length ≤ 17592186044416) : ∀ (d : Nat) (i : Int), 0 ≤ i → i + d = l.length → Ev (fun k => spec_IsLand.l0 k i w h l) (okCells (l.drop i.toNat)) := by
  intro d
  induction d with
  | zero =>
    intro i h0 hi
    rw [List.drop_eq_nil_of_le (by omega)]
    refine Ev.step (f := fun _ => some true) (fun k => ?_) (Ev.now _)
    simp only [spec_IsLand.l0]
    rw [if_neg (by omega)]
  | succ d ih =>
    intro i h0 hi
    have hi2 := ih (i + 1) (by omega) (by omega)
    rw [drop_rd l i h0 (by omega)]
    by_cases c : 0 ≤ rd l i ∧ rd l i ≤ 2
    · rw [show okCells (rd l i :: l.drop (i + 1).toNat) = okCells (l.drop (i + 1).toNat) from by simp [okCells, c]]
      refine Ev.step (f := fun k => spec_IsLand.l0 k (i + 1) w h l) (fun k => ?_) hi2
      simp only [spec_IsLand.l0, spec_l1In_is, Option.bind_some, decide_eq_true c, if_true]
      rw [if_pos (by omega), if_pos h0, wrapS (by omega) (by omega)]
    · rw [show okCells (rd l i :: l.drop (i + 1).toNat) = false from by simp [okCells, c]]
      refine Ev.step (f := fun _ => some false) (fun k => ?_) (Ev.now _)
      simp only [spec_IsLand.l0, spec_l1In_is, Option.bind_some, decide_eq_false c, Bool.false_eq_true, if_false]
      rw [if_pos (by omega), if_pos h0]
theorem spec_IsLand_ev (w h : Int) (l : List Int) (hl : l.length ≤ 17592186044416) : Ev (fun k => spec_IsLand.f k w h l) (isLand w h l) := by
  have jt : Ev (fun k => spec_IsLand.j0 k true w h l) false := by
    refine Ev.step (f := fun _ => some false) (fun k => ?_) (Ev.now _)
    simp only [spec_IsLand.j0, if_true]
  unfold spec_IsLand.f
  simp only [spec_l1In_is, Option.bind_some]
  by_cases c1 : 1 ≤ w ∧ w ≤ 8
  · by_cases c2 : 1 ≤ h ∧ h ≤ 8
    · simp only [decide_eq_true c1, decide_eq_true c2, if_true, wrap_wh c1 c2]
      by_cases c3 : (l.length : Int) = w * h
      · rw [show isLand w h l = okCells l from by simp [isLand, c1, c2, c3]]
        simp only [show ((l.length : Int) != w * h) = false from by simp [c3]]
        refine Ev.step (f := fun k => spec_IsLand.l0 k 0 w h l) (fun k => ?_) (spec_IsLand_loop w h l hl l.length 0 (by omega) (by omega))
        simp only [spec_IsLand.j0, Bool.false_eq_true, if_false]
      · rw [show isLand w h l = false from by simp [isLand, c3]]
        simp only [show ((l.length : Int) != w * h) = true from by simp [c3]]
        exact jt
    · simp only [decide_eq_true c1, decide_eq_false c2, if_true, Bool.false_eq_true, if_false]
      rw [show isLand w h l = false from by simp only [isLand, c2, false_and, and_false, decide_false, Bool.false_and]]
      exact jt
  · simp only [decide_eq_false c1, Bool.false_eq_true, if_false]
    rw [show isLand w h l = false from by simp only [isLand, c1, false_and, decide_false, Bool.false_and]]
    exact jt

theorem spec_IsCell_ev (w h : Int) (l : List Int) (n : Int) (hl : l.length ≤ 17592186044416) : Ev (fun k => spec_IsCell.f k w h l n) (isCell w h l n) := by
  unfold spec_IsCell.f
  refine Ev.bind (spec_IsLand_ev w h l hl) ?_
  try dsimp only
  cases e : isLand w h l with
  | false =>
    rw [show isCell w h l n = false from by simp [isCell, e]]
    simp only [Bool.false_eq_true, if_false]
    exact Ev.now _
  | true =>
    rw [show isCell w h l n = decide (0 ≤ n ∧ n ≤ (l.length : Int) - 1) from by simp [isCell, e]]
    simp only [if_true, spec_l1In_is, Option.bind_some, wrapS (x := (l.length : Int) - 1) (by omega) (by omega)]
    exact Ev.now _

theorem isOpen_land {w h : Int} {l : List Int} {n : Int} (e : isOpen w h l n = true) : isLand w h l = true := by
  simp only [isOpen, Bool.and_eq_true] at e
  exact isCell_land e.1
theorem rd_in (l : List Int) (i : Int) (h0 : 0 ≤ i) (h1 : i < l.length) : rd l i ∈ l := by
  simp only [rd, List.getD_eq_getElem?_getD, List.getElem?_eq_getElem (show i.toNat < l.length by omega), Option.getD_some]
  exact List.getElem_mem _
/-- How many places hold no distance yet. -/
def neg (d : List Int) : Nat := d.countP fun x => decide (x < 0)
theorem neg_le (d : List Int) : neg d ≤ d.length := List.countP_le_length
theorem rd_set_self (d : List Int) (i v : Int) (h0 : 0 ≤ i) (h1 : i < d.length) : rd (d.set i.toNat v) i = v := by
  show (d.set i.toNat v).getD i.toNat 0 = v
  rw [List.getD_eq_getElem?_getD, List.getElem?_set_self (by omega)]
  rfl
theorem rd_set_ne (d : List Int) (i j v : Int) (h0 : 0 ≤ i) (hj : 0 ≤ j) (h : i ≠ j) : rd (d.set i.toNat v) j = rd d j := by
  show (d.set i.toNat v).getD j.toNat 0 = d.getD j.toNat 0
  rw [List.getD_eq_getElem?_getD, List.getD_eq_getElem?_getD, List.getElem?_set_ne (by omega)]
theorem neg_set (d : List Int) (i v : Int) (h0 : 0 ≤ i) (h1 : i < d.length) (hn : rd d i < 0) (hv : 0 ≤ v) : neg (d.set i.toNat v) + 1 = neg d := by
  have hi : i.toNat < d.length := by omega
  have hg : d[i.toNat] = rd d i := by
    show d[i.toNat] = d.getD i.toNat 0
    rw [List.getD_eq_getElem?_getD, List.getElem?_eq_getElem hi]
    rfl
  have hp : 0 < d.countP fun x => decide (x < 0) := List.countP_pos_iff.2 ⟨d[i.toNat], List.getElem_mem hi, by rw [hg]; exact decide_eq_true hn⟩
  unfold neg
  rw [List.countP_set hi, hg]
  simp only [decide_eq_true hn, if_true, decide_eq_false (show ¬ v < 0 by omega), Bool.false_eq_true, if_false]
  omega
/-- What the walk round one cell does: the distances, and what it queues. -/
def vis (c : Int) : List Int → List Int → List Int × List Int
  | [], d => (d, [])
  | x :: ys, d => if rd d x < 0 then ((vis c ys (d.set x.toNat (rd d c + 1))).1, x :: (vis c ys (d.set x.toNat (rd d c + 1))).2) else vis c ys d
def bfs (w : Int) (l : List Int) : Nat → List Int → List Int → List Int
  | 0, d, _ => d
  | _ + 1, d, [] => d
  | f + 1, d, c :: q => bfs w l f (vis c (near w l c) d).1 (q ++ (vis c (near w l c) d).2)
/-- The distances as they stand: one for each cell, none too great. -/
def BInv (l d : List Int) : Prop := d.length = l.length ∧ ∀ j, 0 ≤ j → rd d j + (neg d : Int) ≤ l.length
def QInv (l d q : List Int) : Prop := ∀ x ∈ q, 0 ≤ x ∧ x < l.length ∧ 0 ≤ rd d x
theorem binv_set {l d : List Int} (hd : BInv l d) {c x : Int} (hc : 0 ≤ c ∧ c < l.length ∧ 0 ≤ rd d c) (hx0 : 0 ≤ x) (hx1 : x < l.length) (hn : rd d x < 0) : BInv l (d.set x.toNat (rd d c + 1)) ∧ neg (d.set x.toNat (rd d c + 1)) + 1 = neg d ∧ rd (d.set x.toNat (rd d c + 1)) x = rd d c + 1 ∧ ∀ j, 0 ≤ j → 0 ≤ rd d j → rd (d.set x.toNat (rd d c + 1)) j = rd d j := by
  obtain ⟨hlen, hb⟩ := hd
  have hs := neg_set d x (rd d c + 1) hx0 (by omega) hn (by omega)
  have hself := rd_set_self d x (rd d c + 1) hx0 (by omega)
  refine ⟨⟨by simpa using hlen, ?_⟩, hs, hself, ?_⟩
  · intro j hj
    by_cases e : x = j
    · subst e
      rw [hself]
      have := hb c hc.1
      omega
    · rw [rd_set_ne d x j _ hx0 hj e]
      have := hb j hj
      omega
  · intro j hj h0
    have e : x ≠ j := by
      intro e
      subst e
      omega
    exact rd_set_ne d x j _ hx0 hj e
theorem vis_inv {l : List Int} {c : Int} : ∀ (ys d : List Int), BInv l d → (0 ≤ c ∧ c < l.length ∧ 0 ≤ rd d c) → (∀ x ∈ ys, 0 ≤ x ∧ x < l.length) → BInv l (vis c ys d).1 ∧ neg (vis c ys d).1 + (vis c ys d).2.length = neg d ∧ (∀ j, 0 ≤ j → 0 ≤ rd d j → rd (vis c ys d).1 j = rd d j) ∧ (∀ x ∈ (vis c ys d).2, (0 ≤ x ∧ x < l.length ∧ rd (vis c ys d).1 x = rd d c + 1) ∧ x ∈ ys) := by
  intro ys
  induction ys with
  | nil =>
    intro d hd hc _
    refine ⟨hd, by simp [vis], fun _ _ _ => rfl, ?_⟩
    intro x hx
    simp [vis] at hx
  | cons x ys ih =>
    intro d hd hc hys
    have hx := hys x List.mem_cons_self
    have hys' : ∀ x ∈ ys, 0 ≤ x ∧ x < l.length := fun y hy => hys y (List.mem_cons_of_mem _ hy)
    by_cases hn : rd d x < 0
    · obtain ⟨b1, b2, b3, b4⟩ := binv_set hd hc hx.1 hx.2 hn
      have hc' := b4 c hc.1 hc.2.2
      obtain ⟨i1, i2, i3, i4⟩ := ih _ b1 ⟨hc.1, hc.2.1, by rw [hc']; exact hc.2.2⟩ hys'
      simp only [vis, if_pos hn]
      refine ⟨i1, by rw [List.length_cons]; omega, ?_, ?_⟩
      · intro j hj h0
        rw [i3 j hj (by rw [b4 j hj h0]; exact h0), b4 j hj h0]
      · intro y hy
        rcases List.mem_cons.1 hy with rfl | hy
        · refine ⟨⟨hx.1, hx.2, ?_⟩, List.mem_cons_self⟩
          rw [i3 y hx.1 (by rw [b3]; omega), b3]
        · obtain ⟨⟨a, b, e⟩, g⟩ := i4 y hy
          rw [hc'] at e
          exact ⟨⟨a, b, e⟩, List.mem_cons_of_mem _ g⟩
    · simp only [vis, if_neg hn]
      obtain ⟨i1, i2, i3, i4⟩ := ih d hd hc hys'
      exact ⟨i1, i2, i3, fun y hy => ⟨(i4 y hy).1, List.mem_cons_of_mem _ (i4 y hy).2⟩⟩
theorem near_in {w h : Int} {l : List Int} (hl : isLand w h l = true) {n : Int} (h0 : 0 ≤ n) (h1 : n < l.length) : ∀ x ∈ near w l n, 0 ≤ x ∧ x < l.length := by
  intro x hx
  have := (isOpen_iff hl x).1 ((mem_near hl h0 h1 x).1 hx).1
  exact ⟨this.1, this.2.1⟩
theorem qinv_next {w h : Int} {l d q : List Int} {c : Int} (hl : isLand w h l = true) (hd : BInv l d) (hq : QInv l d (c :: q)) : BInv l (vis c (near w l c) d).1 ∧ QInv l (vis c (near w l c) d).1 (q ++ (vis c (near w l c) d).2) ∧ neg (vis c (near w l c) d).1 + (vis c (near w l c) d).2.length = neg d := by
  have hc := hq c List.mem_cons_self
  obtain ⟨i1, i2, i3, i4⟩ := vis_inv (near w l c) d hd hc (near_in hl hc.1 hc.2.1)
  refine ⟨i1, ?_, i2⟩
  intro x hx
  rcases List.mem_append.1 hx with hx | hx
  · have hh := hq x (List.mem_cons_of_mem _ hx)
    exact ⟨hh.1, hh.2.1, by rw [i3 x hh.1 hh.2.2]; exact hh.2.2⟩
  · obtain ⟨⟨a, b, e⟩, _⟩ := i4 x hx
    exact ⟨a, b, by rw [e]; omega⟩
def dist0 (l : List Int) (a : Int) : List Int := (List.replicate l.length (-1)).set a.toNat 0
def dist (w : Int) (l : List Int) (a : Int) : List Int := bfs w l (l.length + 1) (dist0 l a) [a]
theorem rd_rep (n : Nat) (j : Int) : rd (List.replicate n (-1)) j ≤ 0 := by
  show (List.replicate n (-1 : Int)).getD j.toNat 0 ≤ 0
  rw [List.getD_eq_getElem?_getD, List.getElem?_replicate]
  split <;> simp
theorem dist0_inv {l : List Int} {a : Int} (h0 : 0 ≤ a) (h1 : a < l.length) : BInv l (dist0 l a) ∧ QInv l (dist0 l a) [a] ∧ neg (dist0 l a) + 1 = l.length := by
  have hn : rd (List.replicate l.length (-1)) a < 0 := by
    show (List.replicate l.length (-1 : Int)).getD a.toNat 0 < 0
    rw [List.getD_eq_getElem?_getD, List.getElem?_replicate, if_pos (by omega)]
    simp
  have e : neg (List.replicate l.length (-1)) = l.length := by
    unfold neg
    rw [List.countP_replicate]
    simp
  have hs := neg_set (List.replicate l.length (-1)) a 0 h0 (by simpa using h1) hn (by omega)
  rw [e] at hs
  have hself := rd_set_self (List.replicate l.length (-1)) a 0 h0 (by simpa using h1)
  refine ⟨⟨by simp [dist0], ?_⟩, ?_, hs⟩
  · intro j hj
    unfold dist0
    by_cases e : a = j
    · subst e
      rw [hself]
      omega
    · rw [rd_set_ne _ a j _ h0 hj e]
      have := rd_rep l.length j
      omega
  · intro x hx
    rw [List.mem_singleton] at hx
    subst hx
    exact ⟨h0, h1, by unfold dist0; rw [hself]; omega⟩
theorem bfs_inv {w h : Int} {l : List Int} (hl : isLand w h l = true) : ∀ (f : Nat) (d q : List Int), BInv l d → QInv l d q → BInv l (bfs w l f d q) := by
  intro f
  induction f with
  | zero => intro d q hd _; exact hd
  | succ f ih =>
    intro d q hd hq
    cases q with
    | nil => exact hd
    | cons c q =>
      obtain ⟨i1, i2, _⟩ := qinv_next hl hd hq
      exact ih _ _ i1 i2
theorem dist_inv {w h : Int} {l : List Int} (hl : isLand w h l = true) {a : Int} (h0 : 0 ≤ a) (h1 : a < l.length) : BInv l (dist w l a) := by
  obtain ⟨i1, i2, _⟩ := dist0_inv h0 h1
  exact bfs_inv hl _ _ _ i1 i2
theorem dist_length {w h : Int} {l : List Int} (hl : isLand w h l = true) {a : Int} (h0 : 0 ≤ a) (h1 : a < l.length) : (dist w l a).length = l.length := (dist_inv hl h0 h1).1
theorem rd_mid (Q : List Int) (i : Int) (c : Int) (q : List Int) (h : Q.drop i.toNat = c :: q) : rd Q i = c := by
  show Q.getD i.toNat 0 = c
  have := congrArg (fun t => t[0]?) h
  simp only [List.getElem?_drop, Nat.add_zero, List.getElem?_cons_zero] at this
  rw [List.getD_eq_getElem?_getD, this]
  rfl

def Vd (l d : List Int) (j : Int) : Prop := (0 ≤ j ∧ j < l.length) ∧ 0 ≤ rd d j
theorem vis_more {l : List Int} {c : Int} : ∀ (ys d : List Int), BInv l d → (0 ≤ c ∧ c < l.length ∧ 0 ≤ rd d c) → (∀ x ∈ ys, 0 ≤ x ∧ x < l.length) → (∀ x ∈ ys, 0 ≤ rd (vis c ys d).1 x) ∧ ∀ j, 0 ≤ j → 0 ≤ rd (vis c ys d).1 j → 0 ≤ rd d j ∨ j ∈ (vis c ys d).2 := by
  intro ys
  induction ys with
  | nil =>
    intro d _ _ _
    refine ⟨fun x hx => by simp at hx, fun j _ h => Or.inl h⟩
  | cons x ys ih =>
    intro d hd hc hys
    have hx := hys x List.mem_cons_self
    have hys' : ∀ x ∈ ys, 0 ≤ x ∧ x < l.length := fun y hy => hys y (List.mem_cons_of_mem _ hy)
    by_cases hn : rd d x < 0
    · obtain ⟨b1, b2, b3, b4⟩ := binv_set hd hc hx.1 hx.2 hn
      have hc' := b4 c hc.1 hc.2.2
      have hcc : 0 ≤ c ∧ c < l.length ∧ 0 ≤ rd (d.set x.toNat (rd d c + 1)) c := ⟨hc.1, hc.2.1, by rw [hc']; exact hc.2.2⟩
      obtain ⟨i1, i2, i3, i4⟩ := vis_inv ys _ b1 hcc hys'
      obtain ⟨m1, m2⟩ := ih _ b1 hcc hys'
      simp only [vis, if_pos hn]
      refine ⟨?_, ?_⟩
      · intro y hy
        rcases List.mem_cons.1 hy with rfl | hy
        · rw [i3 y hx.1 (by rw [b3]; omega), b3]
          omega
        · exact m1 y hy
      · intro j hj h
        rcases m2 j hj h with h1 | h1
        · by_cases e : x = j
          · subst e
            exact Or.inr List.mem_cons_self
          · rw [rd_set_ne d x j _ hx.1 hj e] at h1
            exact Or.inl h1
        · exact Or.inr (List.mem_cons_of_mem _ h1)
    · simp only [vis, if_neg hn]
      obtain ⟨i1, i2, i3, i4⟩ := vis_inv ys d hd hc hys'
      obtain ⟨m1, m2⟩ := ih d hd hc hys'
      refine ⟨?_, m2⟩
      intro y hy
      rcases List.mem_cons.1 hy with rfl | hy
      · rw [i3 y hx.1 (by omega)]
        omega
      · exact m1 y hy
/-- What holds of the distances as they stand, while cells wait. -/
structure BF (w h : Int) (l : List Int) (b : Int) (d q : List Int) : Prop where
  inv : BInv l d
  qi : QInv l d q
  opn : ∀ v, Vd l d v → isOpen w h l v = true
  src : Vd l d b ∧ rd d b = 0
  par : ∀ v, Vd l d v → v = b ∨ ∃ u, Vd l d u ∧ v ∈ near w l u ∧ rd d v = rd d u + 1
  don : ∀ v, Vd l d v → v ∈ q ∨ ∀ y ∈ near w l v, 0 ≤ rd d y ∧ rd d y ≤ rd d v + 1
  srt : q.Pairwise fun x y => rd d x ≤ rd d y
  top : ∀ c, q.head? = some c → ∀ v, Vd l d v → rd d v ≤ rd d c + 1
theorem bf_next {w h : Int} {l : List Int} (hl : isLand w h l = true) {b : Int} {d q : List Int} {c : Int} (B : BF w h l b d (c :: q)) : BF w h l b (vis c (near w l c) d).1 (q ++ (vis c (near w l c) d).2) := by
  obtain ⟨n1, n2, n3⟩ := qinv_next hl B.inv B.qi
  have hc := B.qi c List.mem_cons_self
  have hin := near_in hl hc.1 hc.2.1
  obtain ⟨_, _, i3, i4⟩ := vis_inv (near w l c) d B.inv hc hin
  obtain ⟨m1, m2⟩ := vis_more (near w l c) d B.inv hc hin
  generalize hd' : (vis c (near w l c) d).1 = d' at *
  generalize hq' : (vis c (near w l c) d).2 = a at *
  have up : ∀ v, Vd l d v → Vd l d' v ∧ rd d' v = rd d v := by
    intro v hv
    have e := i3 v hv.1.1 hv.2
    exact ⟨⟨hv.1, by rw [e]; exact hv.2⟩, e⟩
  have dn : ∀ v, Vd l d' v → Vd l d v ∨ v ∈ a := by
    intro v hv
    rcases m2 v hv.1.1 hv.2 with h1 | h1
    · exact Or.inl ⟨hv.1, h1⟩
    · exact Or.inr h1
  have cv : Vd l d c := ⟨⟨hc.1, hc.2.1⟩, hc.2.2⟩
  have ec := (up c cv).2
  have qv : ∀ x ∈ q, Vd l d x := by
    intro x hx
    have := B.qi x (List.mem_cons_of_mem _ hx)
    exact ⟨⟨this.1, this.2.1⟩, this.2.2⟩
  have tp := B.top c rfl
  have all : ∀ v, Vd l d' v → rd d' v ≤ rd d c + 1 := by
    intro v hv
    rcases dn v hv with h1 | h1
    · rw [(up v h1).2]; exact tp v h1
    · rw [(i4 v h1).1.2.2]; omega
  have low : ∀ x ∈ q ++ a, rd d c ≤ rd d' x := by
    intro x hx
    rcases List.mem_append.1 hx with h1 | h1
    · rw [(up x (qv x h1)).2]
      exact (List.pairwise_cons.1 B.srt).1 x h1
    · rw [(i4 x h1).1.2.2]; omega
  refine ⟨n1, n2, ?_, ?_, ?_, ?_, ?_, ?_⟩
  · intro v hv
    rcases dn v hv with h1 | h1
    · exact B.opn v h1
    · exact ((mem_near hl hc.1 hc.2.1 v).1 (i4 v h1).2).1
  · exact ⟨(up b B.src.1).1, by rw [(up b B.src.1).2]; exact B.src.2⟩
  · intro v hv
    rcases dn v hv with h1 | h1
    · rcases B.par v h1 with h2 | ⟨u, h2, h3, h4⟩
      · exact Or.inl h2
      · exact Or.inr ⟨u, (up u h2).1, h3, by rw [(up u h2).2, (up v h1).2]; exact h4⟩
    · exact Or.inr ⟨c, (up c cv).1, (i4 v h1).2, by rw [ec]; exact (i4 v h1).1.2.2⟩
  · intro v hv
    rcases dn v hv with h1 | h1
    · rcases B.don v h1 with h2 | h2
      · rcases List.mem_cons.1 h2 with rfl | h2
        · refine Or.inr (fun y hy => ?_)
          have h3 := m1 y hy
          refine ⟨h3, ?_⟩
          rw [ec]
          exact all y ⟨hin y hy, h3⟩
        · exact Or.inl (List.mem_append_left _ h2)
      · refine Or.inr (fun y hy => ?_)
        have h3 := h2 y hy
        rw [(up v h1).2, (up y ⟨near_in hl h1.1.1 h1.1.2 y hy, h3.1⟩).2]
        exact h3
    · exact Or.inl (List.mem_append_right _ h1)
  · refine List.pairwise_append.2 ⟨?_, ?_, ?_⟩
    · refine List.Pairwise.imp_of_mem ?_ (List.pairwise_cons.1 B.srt).2
      intro x y hx hy hxy
      rw [(up x (qv x hx)).2, (up y (qv y hy)).2]
      exact hxy
    · refine List.Pairwise.imp_of_mem (R := fun _ _ => True) ?_ (List.pairwise_of_forall (fun _ _ => trivial))
      intro x y hx hy _
      rw [(i4 x hx).1.2.2, (i4 y hy).1.2.2]
      omega
    · intro x hx y hy
      rw [(up x (qv x hx)).2, (i4 y hy).1.2.2]
      exact tp x (qv x hx)
  · intro c' hc' v hv
    have h1 := low c' (List.mem_of_mem_head? hc')
    have h2 := all v hv
    omega
theorem bf_done {w h : Int} {l : List Int} (hl : isLand w h l = true) {b : Int} : ∀ (f : Nat) (d q : List Int), BF w h l b d q → q.length + neg d < f → BF w h l b (bfs w l f d q) [] := by
  intro f
  induction f with
  | zero => intro d q _ h; omega
  | succ f ih =>
    intro d q B hf
    cases q with
    | nil => exact B
    | cons c q =>
      rw [List.length_cons] at hf
      obtain ⟨n1, n2, n3⟩ := qinv_next hl B.inv B.qi
      exact ih _ _ (bf_next hl B) (by rw [List.length_append]; omega)
theorem bf_dist {w h : Int} {l : List Int} {b : Int} (hb : isOpen w h l b = true) : BF w h l b (dist w l b) [] := by
  have hl := isOpen_land hb
  obtain ⟨b0, b1, _⟩ := (isOpen_iff hl b).1 hb
  obtain ⟨i1, i2, i3⟩ := dist0_inv b0 b1
  have only : ∀ v, Vd l (dist0 l b) v → v = b := by
    intro v hv
    by_cases e : b = v
    · exact e.symm
    · have h1 := hv.2
      unfold dist0 at h1
      rw [rd_set_ne _ b v 0 b0 hv.1.1 e] at h1
      have h2 : rd (List.replicate l.length (-1)) v = -1 := by
        show (List.replicate l.length (-1 : Int)).getD v.toNat 0 = -1
        have := hv.1
        rw [List.getD_eq_getElem?_getD, List.getElem?_replicate, if_pos (by omega)]
        rfl
      omega
  have hself : rd (dist0 l b) b = 0 := rd_set_self (List.replicate l.length (-1)) b 0 b0 (by simpa using b1)
  refine bf_done hl _ _ _ ⟨i1, i2, ?_, ?_, ?_, ?_, ?_, ?_⟩ (by simp; omega)
  · intro v hv
    rw [only v hv]
    exact hb
  · exact ⟨⟨⟨b0, b1⟩, by omega⟩, hself⟩
  · intro v hv
    exact Or.inl (only v hv)
  · intro v hv
    exact Or.inl (by rw [only v hv]; exact List.mem_singleton.2 rfl)
  · exact List.pairwise_singleton _ _
  · intro c hc v hv
    have h1 := only v hv
    subst h1
    simp only [List.head?_cons, Option.some.injEq] at hc
    subst hc
    omega
theorem near_sym {w h : Int} {l : List Int} {u v : Int} (hl : isLand w h l = true) (hu : isOpen w h l u = true) (h1 : v ∈ near w l u) : u ∈ near w l v := by
  obtain ⟨u0, u1, _⟩ := (isOpen_iff hl u).1 hu
  obtain ⟨a, b⟩ := (mem_near hl u0 u1 v).1 h1
  obtain ⟨v0, v1, _⟩ := (isOpen_iff hl v).1 a
  exact (mem_near hl v0 v1 u).2 ⟨hu, by rw [step_comm]; exact b⟩
/-- A neighbour of a cell that is reached: reached too, and no more than a day away from it. -/
theorem dist_near {w h : Int} {l : List Int} {b : Int} (hb : isOpen w h l b = true) {v y : Int} (hv : Vd l (dist w l b) v) (hy : y ∈ near w l v) : Vd l (dist w l b) y ∧ rd (dist w l b) y ≤ rd (dist w l b) v + 1 ∧ rd (dist w l b) v ≤ rd (dist w l b) y + 1 := by
  have hl := isOpen_land hb
  have B := bf_dist hb
  have q1 : ∀ v, Vd l (dist w l b) v → ∀ y ∈ near w l v, 0 ≤ rd (dist w l b) y ∧ rd (dist w l b) y ≤ rd (dist w l b) v + 1 := by
    intro v hv
    rcases B.don v hv with h1 | h1
    · simp at h1
    · exact h1
  have h1 := q1 v hv y hy
  have hyv : Vd l (dist w l b) y := ⟨near_in hl hv.1.1 hv.1.2 y hy, h1.1⟩
  exact ⟨hyv, h1.2, (q1 y hyv v (near_sym hl (B.opn v hv) hy)).2⟩
/-- A cell that is reached, not the first: it has a neighbour a day nearer. -/
theorem dist_down {w h : Int} {l : List Int} {b : Int} (hb : isOpen w h l b = true) {v : Int} (hv : Vd l (dist w l b) v) (hne : v ≠ b) : ∃ u ∈ near w l v, Vd l (dist w l b) u ∧ rd (dist w l b) v = rd (dist w l b) u + 1 := by
  have hl := isOpen_land hb
  have B := bf_dist hb
  rcases B.par v hv with h1 | ⟨u, h1, h2, h3⟩
  · exact absurd h1 hne
  · exact ⟨u, near_sym hl (B.opn u h1) h2, h1, h3⟩
theorem dist_self {w h : Int} {l : List Int} {b : Int} (hb : isOpen w h l b = true) : rd (dist w l b) b = 0 := (bf_dist hb).src.2
/-- Who is reached from the one end, reaches the other: with one cell common to both. -/
theorem dist_swap {w h : Int} {l : List Int} {a b : Int} (ha : isOpen w h l a = true) (hb : isOpen w h l b = true) (h1 : 0 ≤ rd (dist w l a) b) : 0 ≤ rd (dist w l b) a := by
  have hl := isOpen_land hb
  have A := bf_dist ha
  obtain ⟨a0, a1, _⟩ := (isOpen_iff hl a).1 ha
  obtain ⟨b0, b1, _⟩ := (isOpen_iff hl b).1 hb
  have key : ∀ (n : Nat) (v : Int), Vd l (dist w l a) v → rd (dist w l a) v = n → 0 ≤ rd (dist w l b) v → 0 ≤ rd (dist w l b) a := by
    intro n
    induction n with
    | zero =>
      intro v hv e hb'
      by_cases hne : v = a
      · subst hne; exact hb'
      · obtain ⟨u, _, hu, he⟩ := dist_down ha hv hne
        have := hu.2
        omega
    | succ n ih =>
      intro v hv e hb'
      by_cases hne : v = a
      · subst hne; exact hb'
      · obtain ⟨u, hn, hu, he⟩ := dist_down ha hv hne
        refine ih u hu (by omega) ?_
        exact (dist_near hb (v := v) ⟨hv.1, hb'⟩ hn).1.2
  have e0 := dist_self hb
  exact key (rd (dist w l a) b).toNat b ⟨⟨b0, b1⟩, h1⟩ (by omega) (by omega)

theorem DrawIsCell_ex (b : List Int) (hb : b.length ≤ 1048576) : ∃ w h l n, Ev (fun k => spec_DrawIsCell.f k b) (w, h, l, n) ∧ (-9223372036854775808 ≤ w ∧ w ≤ 9223372036854775807) ∧ l.length ≤ 30 := by
  unfold spec_DrawIsCell.f
  obtain ⟨h0, hN⟩ := l1New_ex b hb
  obtain ⟨w, hh, l, i1, h1, hE, bw, bl, g1⟩ := l4Any_ex b 0 h0 (by omega) hb
  obtain ⟨x, i2, h2, e2, _, _, g2⟩ := l1Below_ex b i1 h1 30 g1 hb
  obtain ⟨y, i3, h3, e3, _, _, g3⟩ := l1Below_ex b i2 h2 30 g2 hb
  obtain ⟨z, i4, h4, e4, _, g4⟩ := l4Raw_ex b i3 h3 g3 hb
  obtain ⟨v, i5, h5, e5, _, g5⟩ := l1Int_ex b i4 h4 [x, y, 0, z] (by simp) g4 hb
  refine ⟨w, hh, l, v, Ev.bind hN (Ev.bind hE ?_), bw, bl⟩
  simp only [e2, e3, e4, e5, Option.bind_some]
  exact Ev.now _
theorem DrawNear_ex (b : List Int) (hb : b.length ≤ 1048576) : ∃ w h l n, Ev (fun k => spec_DrawNear.f k b) (w, h, l, n) ∧ (-9223372036854775808 ≤ w ∧ w ≤ 9223372036854775807) ∧ l.length ≤ 30 := by
  unfold spec_DrawNear.f
  obtain ⟨w, h, l, n, hE, bw, bl⟩ := DrawIsCell_ex b hb
  exact ⟨w, h, l, n, Ev.bind hE (Ev.now _), bw, bl⟩
theorem DrawApart_ex (b : List Int) (hb : b.length ≤ 1048576) : ∃ w h l n m, Ev (fun k => spec_DrawApart.f k b) (w, h, l, n, m) ∧ l.length ≤ 30 := by
  unfold spec_DrawApart.f
  obtain ⟨w, h, l, n, hE, bw, bl⟩ := DrawIsCell_ex b hb
  obtain ⟨h0, hN⟩ := l1New_ex b hb
  obtain ⟨x, i2, h2, e2, _, _, g2⟩ := l1Below_ex b 0 h0 30 (by omega) hb
  refine ⟨w, h, l, n, x, Ev.bind hE (Ev.bind hN ?_), bl⟩
  simp only [e2, Option.bind_some]
  exact Ev.now _
theorem DrawIsLand_ex (b : List Int) (hb : b.length ≤ 1048576) : ∃ w h l, Ev (fun k => spec_DrawIsLand.f k b) (w, h, l) ∧ l.length ≤ 30 := by
  unfold spec_DrawIsLand.f
  obtain ⟨h0, hN⟩ := l1New_ex b hb
  obtain ⟨w, hh, l, i1, h1, hE, bw, bl, g1⟩ := l4Any_ex b 0 h0 (by omega) hb
  exact ⟨w, hh, l, Ev.bind hN (Ev.bind hE (Ev.now _)), bl⟩
theorem apart_comm (w h : Int) (l : List Int) (a b : Int) : apart w h l a b = apart w h l b a := by
  by_cases c : isCell w h l a = true ∧ isCell w h l b = true
  · rw [apart_step c.1 c.2, apart_step c.2 c.1, step_comm]
  · unfold apart
    rw [if_neg c, if_neg (fun hh => c ⟨hh.2, hh.1⟩)]
theorem apart_self {w h : Int} {l : List Int} {a : Int} (c : isCell w h l a = true) : apart w h l a a = 0 := by
  rw [apart_step c c]
  unfold step absI
  split <;> split <;> omega
theorem laws_ascends_ev (l : List Int) (hl : l.length ≤ 64) (ha : l.Pairwise (· < ·)) : Ev (fun k => laws_ascends.f k l) true := by
  have key : ∀ (d : Nat) (i : Int), 1 ≤ i → i + d ≥ l.length → i ≤ 65 → Ev (fun k => laws_ascends.l0 k l i) true := by
    intro d
    induction d with
    | zero =>
      intro i h0 hi _
      refine Ev.step (f := fun _ => some true) (fun k => ?_) (Ev.now _)
      simp only [laws_ascends.l0]
      rw [if_neg (by omega)]
    | succ d ih =>
      intro i h0 hi h65
      by_cases c : i < (l.length : Int)
      · have hlt : rd l (i - 1) < rd l i := by
          have := List.pairwise_iff_getElem.1 ha (i - 1).toNat i.toNat (by omega) (by omega) (by omega)
          simp only [rd, List.getD_eq_getElem?_getD, List.getElem?_eq_getElem (show i.toNat < l.length by omega), List.getElem?_eq_getElem (show (i - 1).toNat < l.length by omega), Option.getD_some]
          exact this
        refine Ev.step (fun k => ?_) (ih (i + 1) (by omega) (by omega) (by omega))
        simp only [laws_ascends.l0]
        rw [wrapS (x := i - 1) (by omega) (by omega), wrapS (x := i + 1) (by omega) (by omega), if_pos c, if_pos (by omega), if_pos (by omega), if_pos (by omega), if_neg (by omega)]
      · refine Ev.step (f := fun _ => some true) (fun k => ?_) (Ev.now _)
        simp only [laws_ascends.l0]
        rw [if_neg c]
  exact key l.length 1 (by omega) (by omega) (by omega)
theorem laws_contains_ev (l : List Int) (x : Int) (hl : l.length ≤ 64) (hx : x ∈ l) : Ev (fun k => laws_contains.f k l x) true := by
  have key : ∀ (d : Nat) (i : Int), 0 ≤ i → i + d = l.length → x ∈ l.drop i.toNat → Ev (fun k => laws_contains.l0 k l x i) true := by
    intro d
    induction d with
    | zero =>
      intro i h0 hi hm
      rw [List.drop_eq_nil_of_le (by omega)] at hm
      simp at hm
    | succ d ih =>
      intro i h0 hi hm
      rw [drop_rd l i h0 (by omega)] at hm
      by_cases c : rd l i = x
      · refine Ev.step (f := fun _ => some true) (fun k => ?_) (Ev.now _)
        simp only [laws_contains.l0]
        rw [if_pos (by omega), if_pos h0, if_pos c]
      · refine Ev.step (fun k => ?_) (ih (i + 1) (by omega) (by omega) ?_)
        · simp only [laws_contains.l0]
          rw [wrapS (x := i + 1) (by omega) (by omega), if_pos (by omega), if_pos h0, if_neg c]
        · rcases List.mem_cons.1 hm with h1 | h1
          · exact absurd h1.symm c
          · exact h1
  exact key l.length 0 (by omega) (by omega) hx
theorem cc_sum (l : List Int) : ∀ s0 s1 s2 : Int, okCells l = true → 0 ≤ s0 → 0 ≤ s1 → 0 ≤ s2 → s0 + s1 + s2 + l.length ≤ 1000 → 0 ≤ ccGo 0 s0 l ∧ 0 ≤ ccGo 1 s1 l ∧ 0 ≤ ccGo 2 s2 l ∧ ccGo 0 s0 l + ccGo 1 s1 l + ccGo 2 s2 l = s0 + s1 + s2 + l.length := by
  induction l with
  | nil => intro s0 s1 s2 _ h0 h1 h2 _; simp [ccGo, h0, h1, h2]
  | cons x t ih =>
    intro s0 s1 s2 hok h0 h1 h2 hs
    simp only [okCells, List.all_cons, Bool.and_eq_true, decide_eq_true_eq] at hok
    rw [List.length_cons] at hs ⊢
    have e : ∀ k s, ccGo k s (x :: t) = ccGo k (if x = k then wrap64 (s + 1) else s) t := fun k s => rfl
    rw [e, e, e]
    have hx : x = 0 ∨ x = 1 ∨ x = 2 := by omega
    rcases hx with rfl | rfl | rfl
    · rw [if_pos rfl, if_neg (by omega), if_neg (by omega), wrapS (by omega) (by omega)]
      have := ih (s0 + 1) s1 s2 hok.2 (by omega) h1 h2 (by omega)
      omega
    · rw [if_neg (by omega), if_pos rfl, if_neg (by omega), wrapS (by omega) (by omega)]
      have := ih s0 (s1 + 1) s2 hok.2 h0 (by omega) h2 (by omega)
      omega
    · rw [if_neg (by omega), if_neg (by omega), if_pos rfl, wrapS (by omega) (by omega)]
      have := ih s0 s1 (s2 + 1) hok.2 h0 h1 (by omega) (by omega)
      omega
theorem land_fin (b : List Int) (hb : b.length ≤ 1048576) (n : Int) (r : List Int) (i w h : Int) (l : List Int) (hi : ¬ i < (r.length : Int)) : Ev (fun k => laws_FnLand.l0 k b n r i w h l) true := by
  refine Ev.step (fun k => by rw [laws_FnLand.l0, if_neg hi]) ?_
  obtain ⟨w2, h2, l2, hE, bl⟩ := DrawIsLand_ex b hb
  refine Ev.bind (hE) ?_
  refine Ev.bind (impl_IsLand_ev w2 h2 l2 (by omega)) ?_
  by_cases c : isLand w2 h2 l2 = true
  · rw [c]
    simp only [if_true]
    refine Ev.bind (impl_CountCells_ev w2 h2 l2 0 (by omega)) ?_
    refine Ev.bind (impl_CountCells_ev w2 h2 l2 1 (by omega)) ?_
    refine Ev.bind (impl_CountCells_ev w2 h2 l2 2 (by omega)) ?_
    unfold countCells
    simp only [if_pos c]
    obtain ⟨_, _, _, _, ok⟩ := isLand_true c
    have hs := cc_sum l2 0 0 0 ok (by omega) (by omega) (by omega) (by omega)
    rw [wrapS (x := ccGo 0 0 l2 + ccGo 1 0 l2) (by omega) (by omega), wrapS (by omega) (by omega), show ccGo 0 0 l2 + ccGo 1 0 l2 + ccGo 2 0 l2 = (l2.length : Int) from by omega]
    simp only [beq_self_eq_true]
    exact Ev.now _
  · rw [Bool.not_eq_true] at c
    rw [c]
    simp only [Bool.false_eq_true, if_false]
    exact Ev.now _
theorem land_loop (b : List Int) (hb : b.length ≤ 1048576) (n w h : Int) (l : List Int) (bw : -9223372036854775808 ≤ w ∧ w ≤ 9223372036854775807) (bl : l.length ≤ 30) (r : List Int) (hr : (if isCell w h l n = true then near w l n else []) = r) (h4 : r.length ≤ 4) : ∀ (d : Nat) (i : Int), 0 ≤ i → i + d = r.length → Ev (fun k => laws_FnLand.l0 k b n r i w h l) true := by
  intro d
  induction d with
  | zero =>
    intro i h0 hi
    exact land_fin b hb n r i w h l (by omega)
  | succ d ih =>
    intro i h0 hi
    have hh := ih (i + 1) (by omega) (by omega)
    have hm := rd_in r i h0 (by omega)
    have hc : isCell w h l n = true := by
      by_cases c : isCell w h l n = true
      · exact c
      · rw [if_neg c] at hr
        subst hr
        simp at hm
    have hld := isCell_land hc
    obtain ⟨n0, n1⟩ := isCell_true hc
    rw [if_pos hc] at hr
    generalize hx : rd r i = x at hm
    rw [← hr] at hm
    obtain ⟨ho, hs⟩ := (mem_near hld n0 n1 x).1 hm
    obtain ⟨x0, x1, _⟩ := (isOpen_iff hld x).1 ho
    have hcx := isCell_mk hld x0 x1
    refine Ev.step (fun k => by rw [laws_FnLand.l0, if_pos (show i < (r.length : Int) from by omega), if_pos h0, hx, wrapS (x := i + 1) (by omega) (by omega)]) ?_
    refine Ev.bind (impl_IsOpen_ev w h l x (by omega)) ?_
    rw [ho]
    simp only [if_true]
    refine Ev.bind (impl_Apart_ev w h l n x (by omega)) ?_
    rw [apart_step hc hcx, hs]
    simp only [if_true]
    refine Ev.bind (impl_IsOpen_ev w h l n (by omega)) ?_
    by_cases hn : isOpen w h l n = true
    · rw [hn]
      simp only [if_true]
      have hnr := impl_Near_ev w h l x (by omega) bw
      rw [if_pos hcx] at hnr
      have hl4 := near_length w l x
      refine Ev.bind (hnr) ?_
      refine Ev.bind (laws_contains_ev (near w l x) n (by omega) (near_sym hld hn hm)) ?_
      simp only [if_true]
      exact hh
    · rw [Bool.not_eq_true] at hn
      rw [hn]
      simp only [Bool.false_eq_true, if_false]
      exact hh
theorem land_j0 (b : List Int) (hb : b.length ≤ 1048576) : Ev (fun k => laws_FnLand.j0 k b false) true := by
  refine Ev.step (fun k => by rw [laws_FnLand.j0]) ?_
  simp only [Bool.false_eq_true, if_false]
  obtain ⟨w, h, l, n, hE, bw, bl⟩ := DrawNear_ex b hb
  refine Ev.bind (hE) ?_
  have ei := impl_Near_ev w h l n (by omega) bw
  have h4 : (if isCell w h l n = true then near w l n else []).length ≤ 4 := by
    split
    · exact near_length w l n
    · simp
  have ha : (if isCell w h l n = true then near w l n else []).Pairwise (· < ·) := by
    split
    · rename_i hc
      exact near_asc w l n (isLand_true (isCell_land hc)).1.1
    · exact List.Pairwise.nil
  generalize hr : (if isCell w h l n = true then near w l n else []) = r at h4 ei ha
  refine Ev.bind (ei) ?_
  refine Ev.bind (laws_ascends_ev r (by omega) ha) ?_
  simp only [if_true, decide_eq_false (show ¬ (r.length : Int) > 4 from by omega)]
  refine Ev.step (fun k => by rw [laws_FnLand.j1]) ?_
  simp only [Bool.false_eq_true, if_false]
  exact land_loop b hb n w h l bw bl r hr h4 r.length 0 (by omega) (by omega)
theorem FnLand : laws_FnLand.Pure := by
  intro l _ _ _
  apply Ev.rounds
  unfold laws_FnLand.f laws_big.f
  simp only [Option.bind_some]
  by_cases h1 : (l.length : Int) > 1048576
  · simp only [decide_eq_true h1, if_true]; exact Ev.now _
  simp only [decide_eq_false h1, Bool.false_eq_true, if_false]
  have hb : l.length ≤ 1048576 := by omega
  obtain ⟨w, h, c, n, m, hE, bl⟩ := DrawApart_ex l hb
  refine Ev.bind (hE) ?_
  refine Ev.bind (impl_IsCell_ev w h c n (by omega)) ?_
  refine Ev.bind (spec_IsCell_ev w h c n (by omega)) ?_
  simp only [bne_self_eq_false, Bool.false_eq_true, if_false]
  refine Ev.bind (impl_Apart_ev w h c n m (by omega)) ?_
  refine Ev.bind (impl_Apart_ev w h c m n (by omega)) ?_
  rw [apart_comm w h c m n]
  simp only [if_true]
  refine Ev.bind (impl_IsCell_ev w h c n (by omega)) ?_
  by_cases hc : isCell w h c n = true
  · rw [hc]
    simp only [if_true]
    refine Ev.bind (impl_Apart_ev w h c n n (by omega)) ?_
    rw [apart_self hc]
    exact land_j0 l hb
  · rw [Bool.not_eq_true] at hc
    rw [hc]
    simp only [Bool.false_eq_true, if_false]
    exact land_j0 l hb

end Go.Proofs.Ytoafabcopihniaa.Pure
