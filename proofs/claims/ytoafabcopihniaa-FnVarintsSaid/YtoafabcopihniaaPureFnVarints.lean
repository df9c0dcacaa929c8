/- FnVarints answers true, for each list of bytes. -/
import Derived.Test.YtoafabcopihniaaQFnVarintsx4
import Derived.Test.YtoafabcopihniaaWSized
set_option linter.unusedVariables false
set_option linter.unusedSimpArgs false
namespace Go.Proofs.Ytoafabcopihniaa.PrintWords
open Go.ChangeShapes Go.WideShapes
/-- The printed row names the word so; it lies one namespace beside. -/
theorem sized_ints {H : Type} {enc : TypeId × Value → H} {P : Program} {W : World} {base : Nat} {spare : Nat → Bool} {held : Bool} {t e : TypeId} {k : IntKind} {a : Option Addr} {len cap : Nat} {d : DataW H} {ps : List MemPlace} {ts : List TypeId} {ds : List (DataW H)} {j : Nat}
    (hsz : (DataW.weightsEach P ts ds).all (· ≤ reachBytes) = true) (ht : ts[j]? = some t) (hd : ds[j]? = some d) (hu : P.underlying t = some (.slice e)) (he : P.underlying e = some (.int k)) (hc : P.cellsOf e = 1) {B : Nat} (hB : P.bytesOf e = B)
    (h : DataW.Trod enc P W base spare held t (.slice a len cap) d ps) : len * B ≤ 140737488351232 :=
  Go.Proofs.YtoafabcopihniaaW.PrintWords.sized_ints hsz ht hd hu he hc hB h
end Go.Proofs.Ytoafabcopihniaa.PrintWords
namespace Go.Proofs.Ytoafabcopihniaa.Pure
open Go.RowKit Go.Proofs.Ytoafabcopihniaa.QFnVarints Go.Proofs.YtoafabcopihniaaW.PrintWords Go.Proofs.YtoafabcopihniaaW.PrintLast Go.Proofs.YtoafabcopihniaaW.PrintMore

theorem wrapS {x : Int} (h1 : -9223372036854775808 ≤ x) (h2 : x ≤ 9223372036854775807) : wrap64 x = x := by
  unfold wrap64
  omega
theorem i64wf {x : Int} (h : (Lit.int .i64 x).wf = true) : -9223372036854775808 ≤ x ∧ x ≤ 9223372036854775807 := by
  have h1 : (decide (IntKind.i64.min ≤ x) && decide (x ≤ IntKind.i64.max)) = true := h
  rw [Bool.and_eq_true, decide_eq_true_eq, decide_eq_true_eq] at h1
  exact h1
theorem u8wf {x : Int} (h : (Lit.int .u8 x).wf = true) : 0 ≤ x ∧ x ≤ 255 := by
  have h1 : (decide (IntKind.u8.min ≤ x) && decide (x ≤ IntKind.u8.max)) = true := h
  rw [Bool.and_eq_true, decide_eq_true_eq, decide_eq_true_eq] at h1
  exact h1
/-- What is told of some number of rounds is told of any three together. -/
theorem evNow {α : Type} {g : Option α} {r : α} (h : g = some r) : Ev (fun _ => g) r := ⟨0, fun _ _ => h⟩
theorem one_add_neg (n : Nat) : ((1 : Int) + (n : Int) < 0) = False := by
  simp only [eq_iff_iff, iff_false]
  omega

theorem set_take_succ {α : Type} (d : α) (o l : List α) (n : Nat) (ho : o.length = l.length) (hn : n < l.length) (ht : o.take n = l.take n) : (o.set n (l.getD n d)).take (n + 1) = l.take (n + 1) := by
  apply List.ext_getElem?
  intro j
  have hj := congrArg (fun t => t[j]?) ht
  simp only [List.getElem?_take] at hj ⊢
  by_cases h1 : j < n
  · rw [if_pos h1, if_pos h1] at hj
    rw [if_pos (by omega), if_pos (by omega), List.getElem?_set_ne (by omega)]
    exact hj
  · by_cases h2 : j = n
    · subst h2
      rw [if_pos (by omega), if_pos (by omega), List.getElem?_set_self (by omega), List.getElem?_eq_getElem hn, List.getD_eq_getElem?_getD, List.getElem?_eq_getElem hn]
      rfl
    · rw [if_neg (by omega), if_neg (by omega)]
theorem take_all {α : Type} {o l : List α} (n : Nat) (ho : o.length = l.length) (hn : l.length ≤ n) (ht : o.take n = l.take n) : o = l := by
  rw [List.take_of_length_le (by omega), List.take_of_length_le (by omega)] at ht
  exact ht

def hgo (d : Int) (l : List Int) : Int := l.foldl (fun d v => (d * 1000003 + v % 2147483647 + 13) % 2147483647) d
def hashOf (l : List Int) : Int := hgo 11 l
def khash (a : Int) (l : List Int) : Int := hashOf ([a] ++ l ++ [a])
theorem hgo_range (l : List Int) : ∀ d, 0 ≤ d → d < 2147483647 → 0 ≤ hgo d l ∧ hgo d l < 2147483647 := by
  induction l with
  | nil => intro d h1 h2; exact ⟨h1, h2⟩
  | cons v l ih => intro d h1 h2; exact ih ((d * 1000003 + v % 2147483647 + 13) % 2147483647) (by omega) (by omega)
theorem khash_range (a : Int) (l : List Int) : 0 ≤ khash a l ∧ khash a l < 2147483647 := hgo_range _ 11 (by omega) (by omega)
theorem drop_rd (l : List Int) (i : Int) (h0 : 0 ≤ i) (h1 : i < l.length) : l.drop i.toNat = rd l i :: l.drop (i + 1).toNat := by
  rw [show (i + 1).toNat = i.toNat + 1 from by omega, List.drop_eq_getElem_cons (by omega)]
  congr 1
  simp [rd, List.getD_eq_getElem?_getD, List.getElem?_eq_getElem (show i.toNat < l.length by omega)]
theorem hash_round (d v : Int) (h1 : 0 ≤ d) (h2 : d < 2147483647) : Int.tmod (wrap64 ((wrap64 ((wrap64 (d * 1000003)) + v % 2147483647)) + 13)) 2147483647 = (d * 1000003 + v % 2147483647 + 13) % 2147483647 := by
  rw [wrapS (x := d * 1000003) (by omega) (by omega), wrapS (x := d * 1000003 + v % 2147483647) (by omega) (by omega), wrapS (by omega) (by omega), Int.tmod_eq_emod_of_nonneg (by omega)]

theorem and255 (y : Int) : 0 ≤ Go.bits .and .i64 y 255 ∧ Go.bits .and .i64 y 255 ≤ 255 := by
  simp only [Go.bits, BitVec.toNat_and]
  have h : (BitVec.ofInt IntKind.i64.bits y).toNat &&& (BitVec.ofInt IntKind.i64.bits 255).toNat ≤ 255 := by
    have e : (BitVec.ofInt IntKind.i64.bits 255).toNat = 255 := by decide
    rw [e]
    exact Nat.and_le_right
  rw [IntKind.wrap_i64]
  omega
theorem l1Byte_ex (b : List Int) (i h : Int) (hi : 0 ≤ i) (hb : b.length ≤ 1048576) : ∃ x i' h', spec_l1Byte.f b i h = some (x, i', h') ∧ (0 ≤ x ∧ x ≤ 255) ∧ 0 ≤ i' := by
  unfold spec_l1Byte.f
  by_cases c : i < (b.length : Int)
  · rw [if_pos c, if_pos hi]
    exact ⟨_, _, _, rfl, and255 _, by rw [wrapS (by omega) (by omega)]; omega⟩
  · rw [if_neg c]
    exact ⟨_, _, _, rfl, and255 _, hi⟩

theorem l1Below_ex (b : List Int) (i h n : Int) (hi : 0 ≤ i) (hb : b.length ≤ 1048576) : ∃ x i' h', spec_l1Below.f b i h n = some (x, i', h') ∧ (n ≤ 0 → x = 0) ∧ (0 < n → 0 ≤ x ∧ x < n) ∧ 0 ≤ i' := by
  unfold spec_l1Below.f
  by_cases c : n ≤ 0
  · rw [if_pos c]
    exact ⟨_, _, _, rfl, fun _ => rfl, fun h => by omega, hi⟩
  · rw [if_neg c]
    have fin : ∀ v : Int, 0 ≤ v → 0 ≤ Int.tmod v n ∧ Int.tmod v n < n := by
      intro v hv
      rw [Int.tmod_eq_emod_of_nonneg hv]
      exact ⟨Int.emod_nonneg _ (by omega), Int.emod_lt_of_pos _ (by omega)⟩
    obtain ⟨x, i1, h1, e1, b1, g1⟩ := l1Byte_ex b i h hi hb
    by_cases c2 : n ≤ 256
    · rw [if_pos c2, e1]
      simp only [Option.bind_some]
      rw [if_neg (by omega)]
      exact ⟨_, _, _, rfl, fun h => absurd h c, fun _ => fin x b1.1, g1⟩
    · rw [if_neg c2, e1]
      obtain ⟨y, i2, h2, e2, b2, g2⟩ := l1Byte_ex b i1 h1 g1 hb
      obtain ⟨z, i3, h3, e3, b3, g3⟩ := l1Byte_ex b i2 h2 g2 hb
      simp only [Option.bind_some, e2, e3]
      rw [if_neg (by omega)]
      refine ⟨_, _, _, rfl, fun h => absurd h c, fun _ => fin _ ?_, g3⟩
      rw [wrapS (x := x * 65536) (by omega) (by omega), wrapS (x := y * 256) (by omega) (by omega), wrapS (x := x * 65536 + y * 256) (by omega) (by omega), wrapS (by omega) (by omega)]
      omega

theorem l1Int_ex (b : List Int) (i h : Int) (l : List Int) (hl : 0 < l.length) (hi : 0 ≤ i) (hb : b.length ≤ 1048576) : ∃ x i' h', spec_l1Int.f b i h l = some (x, i', h') ∧ x ∈ l ∧ 0 ≤ i' := by
  unfold spec_l1Int.f
  obtain ⟨x, i1, h1, e1, _, b1, g1⟩ := l1Below_ex b i h (l.length : Int) hi hb
  have b1 := b1 (by omega)
  rw [e1]
  simp only [Option.bind_some]
  rw [if_pos b1.1, if_pos b1.2]
  refine ⟨_, _, _, rfl, ?_, g1⟩
  simp only [rd, List.getD_eq_getElem?_getD, List.getElem?_eq_getElem (show x.toNat < l.length by omega), Option.getD_some]
  exact List.getElem_mem _

theorem l1Num_ex (b : List Int) (i h : Int) (hi : 0 ≤ i) (hb : b.length ≤ 1048576) : ∃ x i' h', spec_l1Num.f b i h = some (x, i', h') ∧ (0 ≤ x ∧ x ≤ 1000000000000) ∧ 0 ≤ i' := by
  unfold spec_l1Num.f
  obtain ⟨c, i1, h1, e1, _, b1, g1⟩ := l1Below_ex b i h 4 hi hb
  rw [e1]
  simp only [Option.bind_some]
  by_cases c0 : c = 0
  · obtain ⟨x, i2, h2, e2, _, b2, g2⟩ := l1Below_ex b i1 h1 2000 g1 hb
    have b2 := b2 (by omega)
    rw [if_pos c0, e2]
    exact ⟨_, _, _, rfl, by omega, g2⟩
  · rw [if_neg c0]
    by_cases c1 : c = 1
    · obtain ⟨x, i2, h2, e2, m2, g2⟩ := l1Int_ex b i1 h1 [0, 1, 127, 128, 2147483646, 2147483647, 1000000000000] (by simp) g1 hb
      rw [if_pos c1, e2]
      refine ⟨_, _, _, rfl, ?_, g2⟩
      simp at m2
      dsimp only
      omega
    · rw [if_neg c1]
      by_cases c2 : c = 2
      · obtain ⟨x, i2, h2, e2, _, b2, g2⟩ := l1Below_ex b i1 h1 1000000 g1 hb
        obtain ⟨y, i3, h3, e3, _, b3, g3⟩ := l1Below_ex b i2 h2 1000000 g2 hb
        have b2 := b2 (by omega)
        have b3 := b3 (by omega)
        have u : x * y ≤ 999999 * 999999 := Int.mul_le_mul (by omega) (by omega) b3.1 (by omega)
        have v : 0 ≤ x * y := Int.mul_nonneg b2.1 b3.1
        rw [if_pos c2, e2]
        simp only [Option.bind_some, e3]
        refine ⟨_, _, _, rfl, ?_, g3⟩
        rw [wrapS (by omega) (by omega)]
        omega
      · obtain ⟨x, i2, h2, e2, _, b2, g2⟩ := l1Below_ex b i1 h1 20 g1 hb
        have b2 := b2 (by omega)
        rw [if_neg c2, e2]
        exact ⟨_, _, _, rfl, by omega, g2⟩

theorem l1Once_ex (b : List Int) (i h n : Int) (hi : 0 ≤ i) (hb : b.length ≤ 1048576) : ∃ (x : Bool) (i' h' : Int), spec_l1Once.f b i h n = some (x, i', h') ∧ 0 ≤ i' := by
  unfold spec_l1Once.f
  obtain ⟨x, i1, h1, e1, _, _, g1⟩ := l1Below_ex b i h n hi hb
  rw [e1]
  exact ⟨_, _, _, rfl, g1⟩

theorem l1Raw_ex (b : List Int) (i h : Int) (hi : 0 ≤ i) (hb : b.length ≤ 1048576) : ∃ x i' h', spec_l1Raw.f b i h = some (x, i', h') ∧ (-9223372036854775808 ≤ x ∧ x ≤ 9223372036854775807) ∧ 0 ≤ i' := by
  unfold spec_l1Raw.f spec_l1Odd.f
  obtain ⟨c, i1, h1, e1, g1⟩ := l1Once_ex b i h 2 hi hb
  rw [e1]
  simp only [Option.bind_some]
  cases c with
  | true =>
    obtain ⟨x, i2, h2, e2, m2, g2⟩ := l1Int_ex b i1 h1 [-1, 0, 1, 2, 255, 256, 65535, 2147483647, 2147483648, 4294967295, 4294967296, -2147483648, 9223372036854775807, -9223372036854775808] (by simp) g1 hb
    simp only [if_true, e2, Option.bind_some]
    refine ⟨_, _, _, rfl, ?_, g2⟩
    simp at m2
    omega
  | false =>
    obtain ⟨x, i2, h2, e2, m2, g2⟩ := l1Int_ex b i1 h1 [-1, 1000000000000, 1000000000001] (by simp) g1 hb
    simp only [Bool.false_eq_true, if_false, e2, Option.bind_some]
    refine ⟨_, _, _, rfl, ?_, g2⟩
    simp at m2
    omega
theorem l1One_ex (b : List Int) (i h : Int) (hi : 0 ≤ i) (hb : b.length ≤ 1048576) : ∃ x i' h', spec_l1One.f b i h = some (x, i', h') ∧ (-9223372036854775808 ≤ x ∧ x ≤ 9223372036854775807) ∧ 0 ≤ i' := by
  unfold spec_l1One.f
  obtain ⟨c, i1, h1, e1, g1⟩ := l1Once_ex b i h 6 hi hb
  rw [e1]
  simp only [Option.bind_some]
  cases c with
  | true =>
    obtain ⟨x, i2, h2, e2, b2, g2⟩ := l1Raw_ex b i1 h1 g1 hb
    simp only [if_true, e2, Option.bind_some]
    exact ⟨_, _, _, rfl, b2, g2⟩
  | false =>
    obtain ⟨x, i2, h2, e2, b2, g2⟩ := l1Num_ex b i1 h1 g1 hb
    simp only [Bool.false_eq_true, if_false, e2, Option.bind_some]
    exact ⟨_, _, _, rfl, by omega, g2⟩

theorem l1New_ex (l : List Int) (hl : l.length ≤ 1048576) : ∃ h, Ev (fun k => spec_l1New.f k l) (l, 0, h) := by
  have key : ∀ (d : Nat) (x i : Int), 0 ≤ i → i + d = l.length → ∃ h, Ev (fun k => spec_l1New.l0 k l x i) (l, 0, h) := by
    intro d
    induction d with
    | zero =>
      intro x i h0 hi
      refine ⟨x, Ev.step (f := fun _ => some (l, 0, x)) (fun k => ?_) (Ev.now _)⟩
      simp only [spec_l1New.l0]
      rw [if_neg (by omega)]
    | succ d ih =>
      intro x i h0 hi
      by_cases c : i < 4000
      · obtain ⟨h, hh⟩ := ih (Go.bits .and .i64 (wrap64 ((wrap64 ((wrap64 (x * 137)) + (wrap64 (rd l i)))) + 11)) 1073741823) (i + 1) (by omega) (by omega)
        refine ⟨h, Ev.step (fun k => ?_) hh⟩
        simp only [spec_l1New.l0]
        rw [if_pos (by omega), if_pos c, if_pos h0, wrapS (x := i + 1) (by omega) (by omega)]
      · refine ⟨x, Ev.step (f := fun _ => some (l, 0, x)) (fun k => ?_) (Ev.now _)⟩
        simp only [spec_l1New.l0]
        rw [if_pos (by omega), if_neg c]
  unfold spec_l1New.f
  exact key l.length _ 0 (by omega) (by omega)

theorem l1Bytes_ex (b : List Int) (i h n : Int) (hi : 0 ≤ i) (hb : b.length ≤ 1048576) (hn : n ≤ 1000000) : ∃ (o : List Int) (i' h' : Int), Ev (fun k => spec_l1Bytes.f k b i h n) (o, i', h') ∧ (∀ x ∈ o, 0 ≤ x ∧ x ≤ 255) ∧ o.length = n.toNat ∧ 0 ≤ i' := by
  have key : ∀ (d : Nat) (o : List Int) (j i h : Int), 0 ≤ j → j + d = n.toNat → o.length = j.toNat → (∀ x ∈ o, 0 ≤ x ∧ x ≤ 255) → 0 ≤ i → ∃ (o' : List Int) (i' h' : Int), Ev (fun k => spec_l1Bytes.l0 k n o j b i h) (o', i', h') ∧ (∀ x ∈ o', 0 ≤ x ∧ x ≤ 255) ∧ o'.length = n.toNat ∧ 0 ≤ i' := by
    intro d
    induction d with
    | zero =>
      intro o j i h h0 hj ho hx hi
      refine ⟨o, i, h, Ev.step (f := fun _ => some (o, i, h)) (fun k => ?_) (Ev.now _), hx, by omega, hi⟩
      simp only [spec_l1Bytes.l0]
      rw [if_neg (by omega)]
    | succ d ih =>
      intro o j i h h0 hj ho hx hi
      obtain ⟨x, i1, h1, e1, b1, g1⟩ := l1Byte_ex b i h hi hb
      obtain ⟨o', i', h', hE, hx', hl', hi'⟩ := ih (o ++ [x % 256]) (j + 1) i1 h1 (by omega) (by omega) (by simp; omega) (by
        intro y hy
        rcases List.mem_append.1 hy with h | h
        · exact hx y h
        · simp at h; omega) g1
      refine ⟨o', i', h', Ev.step (fun k => ?_) hE, hx', hl', hi'⟩
      simp only [spec_l1Bytes.l0, e1, Option.bind_some]
      rw [if_pos (by omega), if_pos (by omega), wrapS (x := j + 1) (by omega) (by omega)]
  unfold spec_l1Bytes.f
  exact key n.toNat [] 0 i h (by omega) (by omega) rfl (fun x hx => by simp at hx) hi

theorem and127 (x : Int) (h0 : 0 ≤ x) (h1 : x < 4611686018427387904) : Go.bits .and .i64 x 127 = x % 128 := by
  have h := bits_mask .i64 62 (by decide) (fun n h0 h1 => by rw [IntKind.wrap_i64]; omega) 7 (by decide) x h0 (by omega)
  simpa using h

theorem or128 (x : Int) (h0 : 0 ≤ x) (h1 : x < 128) : Go.bits .or .i64 x 128 = x + 128 := by
  obtain ⟨a, rfl⟩ := Int.eq_ofNat_of_zero_le h0
  have h := (bits_nat .i64 62 (by decide) (fun n h0 h1 => by rw [IntKind.wrap_i64]; omega) a 128 (by omega) (by decide)).2
  have e : a ||| 128 = 128 + a := by
    have := Nat.two_pow_add_eq_or_of_lt (i := 7) (b := a) (by omega) 1
    rw [Nat.or_comm]
    simpa using this.symm
  rw [e] at h
  rw [show ((128 : Int)) = ((128 : Nat) : Int) from rfl, h]
  omega
/-- The bytes of a varint, with as many rounds as are given at most. -/
def uvE : Nat → Int → List Int
  | 0, n => [n % 256]
  | d + 1, n => if n < 128 then [n] else (n % 128 + 128) :: uvE d (n / 128)
def uv (n : Int) : List Int := uvE 6 n
theorem uvE_length (d : Nat) : ∀ n, (uvE d n).length ≤ d + 1 := by
  induction d with
  | zero => intro n; simp [uvE]
  | succ d ih =>
    intro n
    unfold uvE
    split
    · simp
    · have := ih (n / 128)
      simp only [List.length_cons]
      omega
theorem uv_length (n : Int) : (uv n).length ≤ 7 := uvE_length 6 n
theorem uvE_byte (d : Nat) : ∀ n, 0 ≤ n → ∀ x ∈ uvE d n, 0 ≤ x ∧ x ≤ 255 := by
  induction d with
  | zero => intro n h x hx; simp [uvE] at hx; omega
  | succ d ih =>
    intro n h x hx
    unfold uvE at hx
    split at hx
    · simp at hx; omega
    · rcases List.mem_cons.1 hx with h1 | h1
      · omega
      · exact ih (n / 128) (by omega) x h1
def appU (b : List Int) (n : Int) : List Int := if 0 ≤ n ∧ n ≤ 1000000000000 then b ++ uv n else b
theorem appU_length (b : List Int) (n : Int) : (appU b n).length ≤ b.length + 7 := by
  unfold appU
  have := uv_length n
  split
  · rw [List.length_append]; omega
  · omega

theorem spec_l1In_is (a b c : Int) : spec_l1In.f a b c = some (decide (b ≤ a ∧ a ≤ c)) := by
  unfold spec_l1In.f
  by_cases h : b ≤ a <;> simp [h]

theorem spec_uv_loop (d : Nat) : ∀ (n : Int) (o : List Int), 0 ≤ n → n < 128 ^ (d + 1) → n ≤ 1000000000000 → o.length + d + 1 < 140737488355328 → Ev (fun k => spec_AppendUvarint.l0 k n o) (o ++ uvE d n) := by
  induction d with
  | zero =>
    intro n o h0 h1 hm hl
    have h1' : n < 128 := by simpa using h1
    refine Ev.step (f := fun _ => some (o ++ uvE 0 n)) (fun k => ?_) (Ev.now _)
    simp only [spec_AppendUvarint.l0, uvE]
    rw [if_neg (by omega), if_pos (by omega)]
  | succ d ih =>
    intro n o h0 h1 hm hl
    unfold uvE
    by_cases h : n < 128
    · rw [if_pos h]
      refine Ev.step (f := fun _ => some (o ++ [n])) (fun k => ?_) (Ev.now _)
      simp only [spec_AppendUvarint.l0]
      rw [if_neg (by omega), if_pos (by omega), show n % 256 = n from by omega]
    · rw [if_neg h]
      have h2 : n / 128 < 128 ^ (d + 1) := by
        rw [Int.pow_succ] at h1
        omega
      have hi := ih (n / 128) (o ++ [n % 128 + 128]) (by omega) h2 (by omega) (by simp only [List.length_append, List.length_cons, List.length_nil]; omega)
      rw [List.append_assoc] at hi
      refine Ev.step (f := fun k => spec_AppendUvarint.l0 k (n / 128) (o ++ [n % 128 + 128])) (fun k => ?_) hi
      simp only [spec_AppendUvarint.l0]
      rw [if_pos (by omega), if_pos (by omega), and127 n h0 (by omega), or128 _ (by omega) (by omega), show (n % 128 + 128) % 256 = n % 128 + 128 from by omega]
theorem spec_AppendUvarint_ev (b : List Int) (n : Int) (hl : b.length ≤ 70368744177664) : Ev (fun k => spec_AppendUvarint.f k b n) (appU b n) := by
  unfold spec_AppendUvarint.f appU uv
  simp only [Option.bind_some, List.nil_append, List.length_nil, spec_l1In_is]
  by_cases h : 0 ≤ n ∧ n ≤ 1000000000000
  · simp only [h, decide_true, if_true, and_self]
    simp only [if_pos (show 0 + b.length < 140737488355328 from by omega)]
    exact spec_uv_loop 6 n b h.1 (by simp; omega) h.2 (by omega)
  · simp only [h, decide_false, Bool.false_eq_true, if_false]
    simp only [if_pos (show 0 + b.length < 140737488355328 from by omega)]
    exact Ev.now _

theorem impl_InRange_is (a b c : Int) : impl_InRange.f a b c = some (decide (b ≤ a ∧ a ≤ c)) := by
  unfold impl_InRange.f
  by_cases h : b ≤ a <;> simp [h]

theorem impl_uv_loop (d : Nat) : ∀ (n : Int) (o : List Int), 0 ≤ n → n < 128 ^ (d + 1) → n ≤ 1000000000000 → o.length + d + 1 < 140737488355328 → Ev (fun k => impl_AppendUvarint.l0 k n o) (o ++ uvE d n) := by
  induction d with
  | zero =>
    intro n o h0 h1 hm hl
    have h1' : n < 128 := by simpa using h1
    refine Ev.step (f := fun _ => some (o ++ uvE 0 n)) (fun k => ?_) (Ev.now _)
    simp only [impl_AppendUvarint.l0, uvE]
    rw [if_neg (by omega), if_pos (by omega)]
  | succ d ih =>
    intro n o h0 h1 hm hl
    unfold uvE
    by_cases h : n < 128
    · rw [if_pos h]
      refine Ev.step (f := fun _ => some (o ++ [n])) (fun k => ?_) (Ev.now _)
      simp only [impl_AppendUvarint.l0]
      rw [if_neg (by omega), if_pos (by omega), show n % 256 = n from by omega]
    · rw [if_neg h]
      have h2 : n / 128 < 128 ^ (d + 1) := by
        rw [Int.pow_succ] at h1
        omega
      have hi := ih (n / 128) (o ++ [n % 128 + 128]) (by omega) h2 (by omega) (by simp only [List.length_append, List.length_cons, List.length_nil]; omega)
      rw [List.append_assoc] at hi
      refine Ev.step (f := fun k => impl_AppendUvarint.l0 k (n / 128) (o ++ [n % 128 + 128])) (fun k => ?_) hi
      simp only [impl_AppendUvarint.l0]
      rw [if_pos (by omega), if_pos (by omega), Int.tdiv_eq_ediv_of_nonneg h0, Int.tmod_eq_emod_of_nonneg h0, wrapS (by omega) (by omega), wrapS (by omega) (by omega), show (n % 128 + 128) % 256 = n % 128 + 128 from by omega]
theorem impl_AppendUvarint_ev (b : List Int) (n : Int) (hl : b.length ≤ 70368744177664) : Ev (fun k => impl_AppendUvarint.f k b n) (appU b n) := by
  unfold impl_AppendUvarint.f appU uv
  simp only [Option.bind_some, List.nil_append, List.length_nil, impl_InRange_is]
  by_cases h : 0 ≤ n ∧ n ≤ 1000000000000
  · simp only [h, decide_true, if_true, and_self]
    simp only [if_pos (show 0 + b.length < 140737488355328 from by omega)]
    exact impl_uv_loop 6 n b h.1 (by simp; omega) h.2 (by omega)
  · simp only [h, decide_false, Bool.false_eq_true, if_false]
    simp only [if_pos (show 0 + b.length < 140737488355328 from by omega)]
    exact Ev.now _



theorem shl7 (kk : Nat) (hk : kk ≤ 5) (y : Int) (h0 : 0 ≤ y) (h1 : y < 128) : shl .i64 y (7 * (kk : Int)) = y * 128 ^ kk := by
  have h : kk = 0 ∨ kk = 1 ∨ kk = 2 ∨ kk = 3 ∨ kk = 4 ∨ kk = 5 := by omega
  unfold shl
  rw [IntKind.wrap_i64]
  rcases h with rfl | rfl | rfl | rfl | rfl | rfl <;> simp [IntKind.bits] <;> omega
theorem bor_comm (a b : Int) : Go.bits .or .i64 a b = Go.bits .or .i64 b a := by
  simp only [Go.bits, BitVec.or_comm]
theorem or7 (kk : Nat) (hk : kk ≤ 5) (n y : Int) (hn0 : 0 ≤ n) (hn : n < 128 ^ kk) (h0 : 0 ≤ y) (h1 : y < 128) : Go.bits .or .i64 n (y * 128 ^ kk) = n + y * 128 ^ kk := by
  have h : kk = 0 ∨ kk = 1 ∨ kk = 2 ∨ kk = 3 ∨ kk = 4 ∨ kk = 5 := by omega
  have W : ∀ n : Int, 0 ≤ n → n < 2 ^ 62 → IntKind.i64.wrap n = n := fun n h0 h1 => by rw [IntKind.wrap_i64]; omega
  rw [bor_comm]
  rcases h with rfl | rfl | rfl | rfl | rfl | rfl
  · have := bits_join .i64 62 (by decide) W 0 (y * 128 ^ 0) n (by omega) (by omega) (by omega) hn0 (by omega) (by omega); rw [this]; omega
  · have := bits_join .i64 62 (by decide) W 7 (y * 128 ^ 1) n (by omega) (by omega) (by omega) hn0 (by omega) (by omega); rw [this]; omega
  · have := bits_join .i64 62 (by decide) W 14 (y * 128 ^ 2) n (by omega) (by omega) (by omega) hn0 (by omega) (by omega); rw [this]; omega
  · have := bits_join .i64 62 (by decide) W 21 (y * 128 ^ 3) n (by omega) (by omega) (by omega) hn0 (by omega) (by omega); rw [this]; omega
  · have := bits_join .i64 62 (by decide) W 28 (y * 128 ^ 4) n (by omega) (by omega) (by omega) hn0 (by omega) (by omega); rw [this]; omega
  · have := bits_join .i64 62 (by decide) W 35 (y * 128 ^ 5) n (by omega) (by omega) (by omega) hn0 (by omega) (by omega); rw [this]; omega
theorem pow7 (kk : Nat) (hk : kk ≤ 5) (n y : Int) (hn0 : 0 ≤ n) (hn : n < 128 ^ kk) (h0 : 0 ≤ y) (h1 : y < 128) : 0 ≤ n + y * 128 ^ kk ∧ n + y * 128 ^ kk < 128 ^ (kk + 1) ∧ n + y * 128 ^ kk < 4611686018427387904 := by
  have h : kk = 0 ∨ kk = 1 ∨ kk = 2 ∨ kk = 3 ∨ kk = 4 ∨ kk = 5 := by omega
  rcases h with rfl | rfl | rfl | rfl | rfl | rfl <;> omega
/-- A varint is read: d rounds are left, kk bytes are read, n is read so far. -/
def rdUgo (l : List Int) (a : Int) : Nat → Nat → Int → Int × Int × Bool
  | 0, _, _ => (0, 0, false)
  | d + 1, kk, n =>
    if 0 ≤ a ∧ a + kk < l.length then
      if rd l (a + kk) < 128 then
        if (0 < kk ∧ rd l (a + kk) = 0) ∨ n + rd l (a + kk) % 128 * 128 ^ kk > 1000000000000 then (0, 0, false)
        else (n + rd l (a + kk) % 128 * 128 ^ kk, a + kk + 1, true)
      else rdUgo l a d (kk + 1) (n + rd l (a + kk) % 128 * 128 ^ kk)
    else (0, 0, false)
def rdU (l : List Int) (a : Int) : Int × Int × Bool := rdUgo l a 6 0 0
/-- What is read is a number of its kind, and its end lies in the bytes. -/
theorem rdUgo_good (l : List Int) (a : Int) (d : Nat) : ∀ kk n, 0 ≤ n → kk + d = 6 → n < 128 ^ kk → ((rdUgo l a d kk n).2.2 = false ∧ (rdUgo l a d kk n).1 = 0 ∧ (rdUgo l a d kk n).2.1 = 0) ∨ ((rdUgo l a d kk n).2.2 = true ∧ 0 ≤ (rdUgo l a d kk n).1 ∧ (rdUgo l a d kk n).1 ≤ 1000000000000 ∧ 0 ≤ a ∧ a + kk < (rdUgo l a d kk n).2.1 ∧ (rdUgo l a d kk n).2.1 ≤ l.length) := by
  induction d with
  | zero => intro kk n h0 hk hn; exact Or.inl ⟨rfl, rfl, rfl⟩
  | succ d ih =>
    intro kk n h0 hk hn
    have hp := pow7 kk (by omega) n (rd l (a + kk) % 128) h0 hn (by omega) (by omega)
    unfold rdUgo
    by_cases h : 0 ≤ a ∧ a + kk < l.length
    · rw [if_pos h]
      by_cases h2 : rd l (a + kk) < 128
      · rw [if_pos h2]
        by_cases h3 : (0 < kk ∧ rd l (a + kk) = 0) ∨ n + rd l (a + kk) % 128 * 128 ^ kk > 1000000000000
        · rw [if_pos h3]
          exact Or.inl ⟨rfl, rfl, rfl⟩
        · rw [if_neg h3]
          refine Or.inr ⟨rfl, hp.1, ?_, h.1, ?_, ?_⟩
          · show n + rd l (a + kk) % 128 * 128 ^ kk ≤ 1000000000000
            have : ¬ (n + rd l (a + kk) % 128 * 128 ^ kk > 1000000000000) := fun h => h3 (Or.inr h)
            omega
          · show a + kk < a + kk + 1
            omega
          · show a + kk + 1 ≤ l.length
            omega
      · rw [if_neg h2]
        rcases ih (kk + 1) (n + rd l (a + kk) % 128 * 128 ^ kk) hp.1 (by omega) hp.2.1 with h | h
        · exact Or.inl h
        · refine Or.inr ⟨h.1, h.2.1, h.2.2.1, h.2.2.2.1, ?_, h.2.2.2.2.2⟩
          have := h.2.2.2.2.1
          omega
    · rw [if_neg h]
      exact Or.inl ⟨rfl, rfl, rfl⟩
theorem rdU_good (l : List Int) (a : Int) : ((rdU l a).2.2 = false ∧ (rdU l a).1 = 0 ∧ (rdU l a).2.1 = 0) ∨ ((rdU l a).2.2 = true ∧ 0 ≤ (rdU l a).1 ∧ (rdU l a).1 ≤ 1000000000000 ∧ 0 ≤ a ∧ a < (rdU l a).2.1 ∧ (rdU l a).2.1 ≤ l.length) := by
  have h := rdUgo_good l a 6 0 0 (by omega) (by omega) (by simp)
  simpa [rdU] using h
theorem rd_byte (l : List Int) (hb : ∀ x ∈ l, 0 ≤ x ∧ x ≤ 255) (i : Int) (h0 : 0 ≤ i) (h1 : i < l.length) : 0 ≤ rd l i ∧ rd l i ≤ 255 := by
  refine hb _ ?_
  simp only [rd, List.getD_eq_getElem?_getD, List.getElem?_eq_getElem (show i.toNat < l.length by omega), Option.getD_some]
  exact List.getElem_mem _

theorem mulP (q r P : Int) : (128 * q + r) * P = 128 * (q * P) + r * P := by
  rw [Int.add_mul, Int.mul_assoc]
theorem mulP2 (q P : Int) : q * (P * 128) = 128 * (q * P) := by
  rw [← Int.mul_assoc, Int.mul_comm]
theorem rd_drop (l : List Int) (i : Int) (h0 : 0 ≤ i) (x : Int) (t : List Int) (h : l.drop i.toNat = x :: t) : rd l i = x ∧ i < l.length ∧ l.drop (i + 1).toNat = t := by
  have hl : i.toNat < l.length := by
    refine Classical.byContradiction fun hn => ?_
    rw [List.drop_eq_nil_of_le (by omega)] at h
    cases h
  rw [drop_rd l i h0 (by omega)] at h
  injection h with h1 h2
  exact ⟨h1, by omega, h2⟩
/-- What was written is read. -/
theorem rdUgo_uv (l : List Int) (a : Int) (ha : 0 ≤ a) (post : List Int) (d : Nat) : ∀ (kk : Nat) (acc m : Int), kk + d = 6 → 0 ≤ m → m < 128 ^ d → (0 < kk → 0 < m) → 0 ≤ acc → acc + m * 128 ^ kk ≤ 1000000000000 → l.drop (a + kk).toNat = uvE d m ++ post → rdUgo l a d kk acc = (acc + m * 128 ^ kk, a + kk + (uvE d m).length, true) := by
  induction d with
  | zero =>
    intro kk acc m hk h0 h1 h2
    simp at h1
    omega
  | succ d ih =>
    intro kk acc m hk h0 h1 h2 hacc h3 hd
    have hP : (0 : Int) < 128 ^ kk := Int.pow_pos (by omega)
    unfold rdUgo
    by_cases c : m < 128
    · have e : uvE (d + 1) m = [m] := by rw [uvE, if_pos c]
      rw [e, List.singleton_append] at hd
      obtain ⟨r1, r2, r3⟩ := rd_drop l (a + kk) (by omega) _ _ hd
      rw [if_pos ⟨ha, r2⟩, r1, if_pos c, e, show m % 128 = m from by omega, if_neg (by omega)]
      rfl
    · have e : uvE (d + 1) m = (m % 128 + 128) :: uvE d (m / 128) := by rw [uvE, if_neg c]
      rw [e, List.cons_append] at hd
      obtain ⟨r1, r2, r3⟩ := rd_drop l (a + kk) (by omega) _ _ hd
      have hp1 : m < 128 * 128 ^ d := by rw [Int.pow_succ] at h1; omega
      have hm : m = 128 * (m / 128) + m % 128 := by omega
      have hv : acc + m % 128 * 128 ^ kk + m / 128 * 128 ^ (kk + 1) = acc + m * 128 ^ kk := by
        have e1 := mulP (m / 128) (m % 128) (128 ^ kk)
        rw [← hm] at e1
        rw [Int.pow_succ, mulP2, e1]
        omega
      have hq : 0 ≤ m % 128 * 128 ^ kk := Int.mul_nonneg (by omega) (by omega)
      have hi := ih (kk + 1) (acc + m % 128 * 128 ^ kk) (m / 128) (by omega) (by omega) (by omega) (fun _ => by omega) (by omega) (by rw [hv]; exact h3) (by rw [show a + ((kk + 1 : Nat) : Int) = a + kk + 1 from by omega]; exact r3)
      rw [hv] at hi
      rw [if_pos ⟨ha, r2⟩, r1, if_neg (by omega), show (m % 128 + 128) % 128 = m % 128 from by omega, hi, e, List.length_cons]
      congr 2
      omega
theorem rdU_uv (pre post : List Int) (n : Int) (h0 : 0 ≤ n) (h1 : n ≤ 1000000000000) : rdU (pre ++ (uv n ++ post)) pre.length = (n, (pre.length : Int) + (uv n).length, true) := by
  have h := rdUgo_uv (pre ++ (uv n ++ post)) pre.length (by omega) post 6 0 0 n (by omega) h0 (by omega) (fun h => by omega) (by omega) (by omega) (by simp [uv])
  rw [rdU, h]
  simp [uv]
/-- What is read was so written. -/
theorem rdUgo_uv_back (l : List Int) (a : Int) (hb : ∀ x ∈ l, 0 ≤ x ∧ x ≤ 255) (d : Nat) : ∀ (kk : Nat) (acc v e : Int), rdUgo l a d kk acc = (v, e, true) → 0 ≤ a ∧ ∃ m, v = acc + m * 128 ^ kk ∧ 0 ≤ m ∧ (0 < kk → 0 < m) ∧ e = a + kk + (uvE d m).length ∧ (l.drop (a + kk).toNat).take (uvE d m).length = uvE d m := by
  induction d with
  | zero =>
    intro kk acc v e h
    simp [rdUgo] at h
  | succ d ih =>
    intro kk acc v e h
    unfold rdUgo at h
    by_cases c1 : 0 ≤ a ∧ a + kk < l.length
    · rw [if_pos c1] at h
      have hx := rd_byte l hb (a + kk) (by omega) c1.2
      have hdr := drop_rd l (a + kk) (by omega) c1.2
      generalize rd l (a + kk) = x at h hx hdr
      by_cases c2 : x < 128
      · rw [if_pos c2] at h
        by_cases c3 : (0 < kk ∧ x = 0) ∨ acc + x % 128 * 128 ^ kk > 1000000000000
        · rw [if_pos c3] at h
          simp at h
        · rw [if_neg c3] at h
          simp only [Prod.mk.injEq, and_true] at h
          have e1 : uvE (d + 1) x = [x] := by rw [uvE, if_pos c2]
          refine ⟨c1.1, x, ?_, hx.1, fun hk => ?_, ?_, ?_⟩
          · rw [← h.1, show x % 128 = x from by omega]
          · have : ¬ (0 < kk ∧ x = 0) := fun h => c3 (Or.inl h)
            omega
          · rw [e1, ← h.2]
            rfl
          · rw [e1, hdr]
            rfl
      · rw [if_neg c2] at h
        obtain ⟨ha, m, h1, h2, h3, h4, h5⟩ := ih (kk + 1) _ v e h
        have h3 := h3 (by omega)
        have e1 : uvE (d + 1) (128 * m + x % 128) = x :: uvE d m := by
          rw [uvE, if_neg (by omega), show (128 * m + x % 128) % 128 + 128 = x from by omega, show (128 * m + x % 128) / 128 = m from by omega]
        refine ⟨c1.1, 128 * m + x % 128, ?_, by omega, fun _ => by omega, ?_, ?_⟩
        · rw [h1, Int.pow_succ, mulP2, mulP]
          omega
        · rw [e1, h4, List.length_cons]
          omega
        · rw [e1, hdr, List.length_cons, List.take_succ_cons]
          congr 1
          rw [show (a + (kk : Int) + 1).toNat = (a + ((kk + 1 : Nat) : Int)).toNat from by omega]
          exact h5
    · rw [if_neg c1] at h
      simp at h
theorem rdU_uv_back (l : List Int) (a : Int) (hb : ∀ x ∈ l, 0 ≤ x ∧ x ≤ 255) (v e : Int) (h : rdU l a = (v, e, true)) : (l.take e.toNat).drop a.toNat = uv v := by
  obtain ⟨ha, m, h1, h2, _, h4, h5⟩ := rdUgo_uv_back l a hb 6 0 0 v e h
  have e1 : v = m := by rw [h1]; simp
  subst e1
  rw [show (a + ((0 : Nat) : Int)).toNat = a.toNat from by omega] at h5
  rw [List.drop_take]
  rw [show e.toNat - a.toNat = (uvE 6 v).length from by omega]
  exact h5
theorem appU_byte (b : List Int) (n : Int) (hb : ∀ x ∈ b, 0 ≤ x ∧ x ≤ 255) : ∀ x ∈ appU b n, 0 ≤ x ∧ x ≤ 255 := by
  intro x hx
  unfold appU at hx
  split at hx
  · rename_i h
    rcases List.mem_append.1 hx with h1 | h1
    · exact hb x h1
    · exact uvE_byte 6 n h.1 x h1
  · exact hb x hx
theorem rdU_end (l : List Int) : rdU l l.length = (0, 0, false) := by
  unfold rdU rdUgo
  rw [if_neg (by omega)]

theorem impl_rdU_j1 (k : Nat) (l : List Int) (a n x q : Int) (kk : Nat) (hl : l.length ≤ 17592186044416) (hk : kk ≤ 5) (h1 : 0 ≤ a) (h2 : a + kk < l.length) (hx : rd l (a + kk) = x) (hx0 : 0 ≤ x) (hx1 : x ≤ 255)
    (hq : wrap64 (n + shl .i64 (Int.tmod x 128) (7 * (kk : Int))) = q) :
    impl_ReadUvarint.j1 (k + 1) l a n (kk : Int) true = if x < 128 then (if (0 < kk ∧ x = 0) ∨ q > 1000000000000 then some (0, 0, false) else some (q, a + kk + 1, true)) else impl_ReadUvarint.l0 k l a q ((kk + 1 : Nat) : Int) := by
  revert hq hx
  have e1 : wrap64 (a + (kk : Int)) = a + kk := wrapS (by omega) (by omega)
  have e2 : wrap64 x = x := wrapS (by omega) (by omega)
  have e3 : wrap64 (7 * (kk : Int)) = 7 * kk := wrapS (by omega) (by omega)
  have e5 : wrap64 ((kk : Int) + 1) = ((kk + 1 : Nat) : Int) := by rw [wrapS (by omega) (by omega)]; rfl
  have e6 : wrap64 (a + (kk : Int) + 1) = a + kk + 1 := wrapS (by omega) (by omega)
  intro hx hq
  simp only [impl_ReadUvarint.j1, if_true, e1, hx, e2, e3, hq, e5, e6]
  clear hq hx e1 e2 e3 e5 e6
  rw [if_pos (by omega), if_pos (by omega), if_pos (by omega)]
  by_cases c1 : x < 128 <;> by_cases c2 : x = 0 <;> by_cases c3 : kk = 0 <;> by_cases c4 : q > 1000000000000 <;> simp [c1, c2, c3, c4, show ((kk : Int) > 0) = (0 < kk) from by simp] <;> omega
theorem impl_ReadUvarint_ev (l : List Int) (a : Int) (hl : l.length ≤ 17592186044416) (hb : ∀ x ∈ l, 0 ≤ x ∧ x ≤ 255) : Ev (fun k => impl_ReadUvarint.f k l a) (rdU l a) := by
  have key : 0 ≤ a ∧ a ≤ (l.length : Int) - 1 → ∀ (d kk : Nat) (n : Int), kk + d = 6 → 0 ≤ n → n < 128 ^ kk → Ev (fun k => impl_ReadUvarint.l0 k l a n (kk : Int)) (rdUgo l a d kk n) := by
    intro hr d
    induction d with
    | zero =>
      intro kk n hk h0 hn
      clear hn
      refine Ev.step (f := fun k => impl_ReadUvarint.j1 k l a n (kk : Int) false) (fun k => ?_) (Ev.step (f := fun _ => some (0, 0, false)) (fun k => ?_) (Ev.now _))
      · simp only [impl_ReadUvarint.l0]
        rw [if_neg (by omega)]
      · simp only [impl_ReadUvarint.j1, Bool.false_eq_true, if_false]
    | succ d ih =>
      intro kk n hk h0 hn
      unfold rdUgo
      by_cases h : 0 ≤ a ∧ a + kk < l.length
      · rw [if_pos h]
        have hx := rd_byte l hb (a + kk) (by omega) (by omega)
        generalize ex : rd l (a + kk) = x at hx ⊢
        have hp := pow7 kk (by omega) n (x % 128) h0 hn (by omega) (by omega)
        have hi := ih (kk + 1) (n + x % 128 * 128 ^ kk) (by omega) hp.1 hp.2.1
        have e4 : wrap64 (n + shl .i64 (Int.tmod x 128) (7 * (kk : Int))) = n + x % 128 * 128 ^ kk := by
          rw [Int.tmod_eq_emod_of_nonneg hx.1, shl7 kk (by omega) _ (by omega) (by omega), wrapS (by omega) (by omega)]
        generalize eq : n + x % 128 * 128 ^ kk = q at *
        clear hp hn ih eq
        have E4 := Aside0.mk e4
        clear e4
        refine Ev.step (f := fun k => impl_ReadUvarint.j1 k l a n (kk : Int) true) (fun k => ?_) ?_
        · simp only [impl_ReadUvarint.l0]
          rw [if_pos (by omega), wrapS (by omega) (by omega), decide_eq_true (by omega)]
        · refine Ev.step (fun k => impl_rdU_j1 k l a n x q kk hl (by omega) h.1 h.2 ex hx.1 hx.2 E4.out) ?_
          by_cases c : x < 128
          · simp only [if_pos c]
            by_cases c2 : (0 < kk ∧ x = 0) ∨ q > 1000000000000
            · simp only [if_pos c2]; exact Ev.now _
            · simp only [if_neg c2]; exact Ev.now _
          · simp only [if_neg c]
            exact hi
      · rw [if_neg h]
        clear hn
        refine Ev.step (f := fun k => impl_ReadUvarint.j1 k l a n (kk : Int) false) (fun k => ?_) (Ev.step (f := fun _ => some (0, 0, false)) (fun k => ?_) (Ev.now _))
        · simp only [impl_ReadUvarint.l0]
          rw [if_pos (by omega), wrapS (by omega) (by omega), decide_eq_false (by omega)]
        · simp only [impl_ReadUvarint.j1, Bool.false_eq_true, if_false]
  unfold impl_ReadUvarint.f
  simp only [impl_InRange_is, Option.bind_some]
  rw [show wrap64 ((l.length : Int) - 1) = (l.length : Int) - 1 from wrapS (by omega) (by omega)]
  by_cases hr : 0 ≤ a ∧ a ≤ (l.length : Int) - 1
  · simp only [decide_eq_true hr, if_true]
    exact key hr 6 0 0 (by omega) (by omega) (by simp)
  · simp only [decide_eq_false hr, Bool.false_eq_true, if_false]
    have e : rdU l a = (0, 0, false) := by
      unfold rdU rdUgo
      rw [if_neg (by omega)]
    rw [e]
    exact Ev.now _

theorem spec_rdU_j1 (k : Nat) (l : List Int) (a n x q : Int) (kk : Nat) (hl : l.length ≤ 17592186044416) (hk : kk ≤ 5) (h1 : 0 ≤ a) (h2 : a + kk < l.length) (hx : rd l (a + kk) = x) (hx0 : 0 ≤ x) (hx1 : x ≤ 255)
    (hq : Go.bits .or .i64 n (shl .i64 (Go.bits .and .i64 x 127) (7 * (kk : Int))) = q) :
    spec_ReadUvarint.j1 (k + 1) l a n (kk : Int) false = if x < 128 then (if (0 < kk ∧ x = 0) ∨ q > 1000000000000 then some (0, 0, false) else some (q, a + kk + 1, true)) else spec_ReadUvarint.l0 k l a q ((kk + 1 : Nat) : Int) := by
  revert hq hx
  have e1 : wrap64 (a + (kk : Int)) = a + kk := wrapS (by omega) (by omega)
  have e2 : wrap64 x = x := wrapS (by omega) (by omega)
  have e3 : wrap64 (7 * (kk : Int)) = 7 * kk := wrapS (by omega) (by omega)
  have e5 : wrap64 ((kk : Int) + 1) = ((kk + 1 : Nat) : Int) := by rw [wrapS (by omega) (by omega)]; rfl
  have e6 : wrap64 (a + (kk : Int) + 1) = a + kk + 1 := wrapS (by omega) (by omega)
  intro hx hq
  simp only [spec_ReadUvarint.j1, Bool.false_eq_true, if_false, e1, hx, e2, e3, hq, e5, e6]
  clear hq hx e1 e2 e3 e5 e6
  rw [if_pos (by omega), if_pos (by omega), if_pos (by omega)]
  by_cases c1 : x < 128 <;> by_cases c2 : x = 0 <;> by_cases c3 : kk = 0 <;> by_cases c4 : q > 1000000000000 <;> simp [c1, c2, c3, c4, show ((kk : Int) > 0) = (0 < kk) from by simp] <;> omega
theorem spec_ReadUvarint_ev (l : List Int) (a : Int) (hl : l.length ≤ 17592186044416) (hb : ∀ x ∈ l, 0 ≤ x ∧ x ≤ 255) : Ev (fun k => spec_ReadUvarint.f k l a) (rdU l a) := by
  have key : ∀ (d kk : Nat) (n : Int), kk + d = 6 → 0 ≤ n → n < 128 ^ kk → Ev (fun k => spec_ReadUvarint.l0 k l a n (kk : Int)) (rdUgo l a d kk n) := by
    intro d
    induction d with
    | zero =>
      intro kk n hk h0 hn
      clear hn
      refine Ev.step (f := fun _ => some (0, 0, false)) (fun k => ?_) (Ev.now _)
      simp only [spec_ReadUvarint.l0]
      rw [if_neg (by omega)]
    | succ d ih =>
      intro kk n hk h0 hn
      unfold rdUgo
      by_cases h : 0 ≤ a ∧ a + kk < l.length
      · rw [if_pos h]
        have hx := rd_byte l hb (a + kk) (by omega) (by omega)
        generalize ex : rd l (a + kk) = x at hx ⊢
        have hp := pow7 kk (by omega) n (x % 128) h0 hn (by omega) (by omega)
        have hi := ih (kk + 1) (n + x % 128 * 128 ^ kk) (by omega) hp.1 hp.2.1
        have e4 : Go.bits .or .i64 n (shl .i64 (Go.bits .and .i64 x 127) (7 * (kk : Int))) = n + x % 128 * 128 ^ kk := by
          rw [and127 _ (by omega) (by omega), shl7 kk (by omega) _ (by omega) (by omega), or7 kk (by omega) n _ h0 hn (by omega) (by omega)]
        generalize eq : n + x % 128 * 128 ^ kk = q at *
        clear hp hn ih eq
        have E4 := Aside0.mk e4
        clear e4
        refine Ev.step (f := fun k => spec_ReadUvarint.j1 k l a n (kk : Int) false) (fun k => ?_) ?_
        · simp only [spec_ReadUvarint.l0]
          rw [if_pos (by omega), if_neg (by omega), wrapS (by omega) (by omega), decide_eq_false (by omega)]
        · refine Ev.step (fun k => spec_rdU_j1 k l a n x q kk hl (by omega) h.1 h.2 ex hx.1 hx.2 E4.out) ?_
          by_cases c : x < 128
          · simp only [if_pos c]
            by_cases c2 : (0 < kk ∧ x = 0) ∨ q > 1000000000000
            · simp only [if_pos c2]; exact Ev.now _
            · simp only [if_neg c2]; exact Ev.now _
          · simp only [if_neg c]
            exact hi
      · rw [if_neg h]
        clear hn
        refine Ev.step (f := fun k => spec_ReadUvarint.j1 k l a n (kk : Int) true) (fun k => ?_) (Ev.step (f := fun _ => some (0, 0, false)) (fun k => ?_) (Ev.now _))
        · simp only [spec_ReadUvarint.l0]
          rw [if_pos (by omega)]
          by_cases h1 : a < 0
          · rw [if_pos h1]
          · rw [if_neg h1, wrapS (by omega) (by omega), decide_eq_true (by omega)]
        · simp only [spec_ReadUvarint.j1, if_true]
  exact key 6 0 0 (by omega) (by omega) (by simp)

theorem laws_sameBytes_ev (l : List Int) (hl : l.length ≤ 17592186044416) : Ev (fun k => laws_sameBytes.f k l l) true := by
  have key : ∀ (d : Nat) (i : Int), 0 ≤ i → i + d = l.length → Ev (fun k => laws_sameBytes.l0 k l l i) true := by
    intro d
    induction d with
    | zero =>
      intro i h0 hi
      refine Ev.step (f := fun _ => some true) (fun k => ?_) (Ev.now _)
      simp only [laws_sameBytes.l0]
      rw [if_neg (by omega)]
    | succ d ih =>
      intro i h0 hi
      refine Ev.step (f := fun k => laws_sameBytes.l0 k l l (i + 1)) (fun k => ?_) (ih _ (by omega) (by omega))
      simp only [laws_sameBytes.l0]
      rw [if_pos (by omega), if_pos h0, if_pos (by omega), wrapS (by omega) (by omega)]
      simp
  refine Ev.congr (f := fun k => laws_sameBytes.l0 k l l 0) (fun k => ?_) (key l.length 0 (by omega) (by omega))
  unfold laws_sameBytes.f
  rw [if_pos rfl]

theorem DrawAppendUvarint_ex (l : List Int) (hl : l.length ≤ 1048576) : ∃ (b : List Int) (n : Int), Ev (fun k => spec_DrawAppendUvarint.f k l) (b, n) ∧ (∀ x ∈ b, 0 ≤ x ∧ x ≤ 255) ∧ b.length ≤ 8 := by
  obtain ⟨h, hn⟩ := l1New_ex l hl
  obtain ⟨c, i1, h1, e1, _, b1, g1⟩ := l1Below_ex l 0 h 3 (by omega) hl
  have b1 := b1 (by omega)
  obtain ⟨o, i2, h2, hE, hx, hlen, g2⟩ := l1Bytes_ex l i1 h1 c g1 hl (by omega)
  obtain ⟨n, i3, h3, e3, b3, g3⟩ := l1One_ex l i2 h2 g2 hl
  refine ⟨o, n, ?_, hx, by omega⟩
  unfold spec_DrawAppendUvarint.f
  refine Ev.bind hn ?_
  simp only [e1, Option.bind_some]
  refine Ev.bind hE ?_
  simp only [e3, Option.bind_some]
  exact Ev.now _
theorem DrawReadUvarint_ex (l : List Int) (hl : l.length ≤ 1048576) : ∃ (y : List Int) (a : Int), Ev (fun k => spec_DrawReadUvarint.f k l) (y, a) ∧ (∀ x ∈ y, 0 ≤ x ∧ x ≤ 255) ∧ y.length ≤ 100 := by
  have key : ∀ (d : Nat) (o : List Int) (j i h : Int), j = d → d ≤ 8 → o.length + d ≤ 8 → (∀ x ∈ o, 0 ≤ x ∧ x ≤ 255) → 0 ≤ i → ∃ (y : List Int) (a : Int), Ev (fun k => spec_DrawReadUvarint.l0 k o j l i h) (y, a) ∧ (∀ x ∈ y, 0 ≤ x ∧ x ≤ 255) ∧ y.length ≤ 8 := by
    intro d
    induction d with
    | zero =>
      intro o j i h hj hd ho hx hi
      obtain ⟨c, i1, h1, e1, _, b1, g1⟩ := l1Below_ex l i h 4 hi hl
      refine ⟨o, wrap64 (c - 1), Ev.step (f := fun _ => some (o, wrap64 (c - 1))) (fun k => ?_) (Ev.now _), hx, by omega⟩
      simp only [spec_DrawReadUvarint.l0, e1, Option.bind_some]
      rw [if_neg (by omega)]
    | succ d ih =>
      intro o j i h hj hd ho hx hi
      obtain ⟨x, i1, h1, e1, m1, g1⟩ := l1Int_ex l i h [128, 255, 0, 1, 127] (by simp) hi hl
      obtain ⟨y, a, hE, hy, hlen⟩ := ih (o ++ [x % 256]) (j - 1) i1 h1 (by omega) (by omega) (by simp; omega) (by
        intro z hz
        rcases List.mem_append.1 hz with h | h
        · exact hx z h
        · simp at h; omega) g1
      refine ⟨y, a, Ev.step (fun k => ?_) hE, hy, hlen⟩
      simp only [spec_DrawReadUvarint.l0, e1, Option.bind_some]
      rw [if_pos (by omega), if_pos (by omega), wrapS (x := j - 1) (by omega) (by omega)]
  obtain ⟨h, hn⟩ := l1New_ex l hl
  obtain ⟨c, i1, h1, e1, g1⟩ := l1Once_ex l 0 h 2 (by omega) hl
  cases c with
  | true =>
    obtain ⟨o, i2, h2, hE, hx, hlen, g2⟩ := l1Bytes_ex l i1 h1 1 g1 hl (by omega)
    obtain ⟨n, i3, h3, e3, b3, g3⟩ := l1Num_ex l i2 h2 g2 hl
    have hw := appU_length o n
    refine ⟨appU o n, 1, ?_, appU_byte o n hx, by omega⟩
    unfold spec_DrawReadUvarint.f
    refine Ev.bind hn ?_
    simp only [e1, Option.bind_some, if_true]
    refine Ev.bind hE ?_
    simp only [e3, Option.bind_some]
    exact Ev.bind (spec_AppendUvarint_ev o n (by omega)) (Ev.now _)
  | false =>
    obtain ⟨n, i2, h2, e2, _, b2, g2⟩ := l1Below_ex l i1 h1 8 g1 hl
    have b2 := b2 (by omega)
    obtain ⟨y, a, hE, hy, hlen⟩ := key n.toNat [] n i2 h2 (by omega) (by omega) (by simp; omega) (fun x hx => by simp at hx) g2
    refine ⟨y, a, ?_, hy, by omega⟩
    unfold spec_DrawReadUvarint.f
    refine Ev.bind hn ?_
    simp only [e1, e2, Option.bind_some, Bool.false_eq_true, if_false]
    exact hE
theorem varints_j1 (l : List Int) (hl : l.length ≤ 1048576) : Ev (fun k => laws_FnVarints.j1 k l) true := by
  obtain ⟨y, a, hE, hy, hlen⟩ := DrawReadUvarint_ex l hl
  refine Ev.step (fun k => by simp only [laws_FnVarints.j1]; rfl) (Ev.bind hE (Ev.bind (impl_ReadUvarint_ev y a (by omega) hy) ?_))
  try dsimp only
  have hs := spec_ReadUvarint_ev y a (by omega) hy
  have hg := rdU_good y a
  have hback := rdU_uv_back y a hy
  generalize rdU y a = r at hg hback hs ⊢
  obtain ⟨v, e, ok⟩ := r
  dsimp only at hg ⊢
  rcases hg with ⟨q1, q2, q3⟩ | ⟨q1, q2, q3, q4, q5, q6⟩
  · subst q1 q2 q3
    simp only [Bool.false_eq_true, if_false, if_true]
    refine Ev.bind hs ?_
    simp only [Bool.not_false]
    exact Ev.now _
  · subst q1
    have hb2 := hback v e rfl
    have hu := uv_length v
    simp only [if_true, if_pos (show a ≥ 0 from q4), if_pos q6, if_pos q5]
    refine Ev.bind (impl_AppendUvarint_ev [] v (by simp)) ?_
    try dsimp only
    simp only [if_pos q4, if_pos (show a ≤ e from by omega)]
    rw [hb2, show appU [] v = uv v from by unfold appU; rw [if_pos ⟨q2, q3⟩]; rfl]
    exact Ev.bind (laws_sameBytes_ev (uv v) (by omega)) (Ev.now _)
theorem FnVarints : laws_FnVarints.Pure := by
  intro l _ _ _
  apply Ev.rounds
  unfold laws_FnVarints.f laws_big.f
  simp only [Option.bind_some]
  by_cases h1 : (l.length : Int) > 1048576
  · simp only [decide_eq_true h1, if_true]; exact Ev.now _
  simp only [decide_eq_false h1, Bool.false_eq_true, if_false]
  obtain ⟨b, n, hE, hb, hlen⟩ := DrawAppendUvarint_ex l (by omega)
  have hj := varints_j1 l (by omega)
  have hw := appU_length b n
  have hbb := appU_byte b n hb
  refine Ev.bind (hE) ?_
  refine Ev.bind (impl_AppendUvarint_ev b n (by omega)) ?_
  refine Ev.bind (impl_ReadUvarint_ev (appU b n) b.length (by omega) hbb) ?_
  by_cases hn : 0 ≤ n ∧ n ≤ 1000000000000
  · have ea : appU b n = b ++ (uv n ++ []) := by unfold appU; rw [if_pos hn, List.append_nil]
    have er := rdU_uv b [] n hn.1 hn.2
    rw [← ea] at er
    rw [er]
    simp only [if_neg (show ¬ n < 0 from by omega), decide_eq_false (show ¬ n > 1000000000000 from by omega)]
    refine Ev.step (f := fun k => laws_FnVarints.j1 k l) (fun k => ?_) hj
    simp only [laws_FnVarints.j0, Bool.false_eq_true, if_false, if_true]
    rw [if_pos (by rw [ea]; simp)]
  · have ea : appU b n = b := by unfold appU; rw [if_neg hn]
    rw [ea, rdU_end b]
    have jt : Ev (fun k => laws_FnVarints.j0 k l b n b 0 0 false true) true := by
      refine Ev.step (f := fun k => (laws_sameBytes.f k b b).bind fun t => if t = true then laws_FnVarints.j1 k l else some false) (fun k => ?_) (Ev.bind (laws_sameBytes_ev b (by omega)) ?_)
      · simp only [laws_FnVarints.j0, Bool.false_eq_true, if_false, if_true]
      · simp only [if_true]
        exact hj
    by_cases c : n < 0
    · simp only [if_pos c]
      exact jt
    · simp only [if_neg c, decide_eq_true (show n > 1000000000000 from by omega)]
      exact jt

end Go.Proofs.Ytoafabcopihniaa.Pure
