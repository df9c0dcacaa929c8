/- FnKeyedHash answers true, for each list of bytes. -/
import Derived.Test.YtoafabcopihniaaQFnKeyedHashx3
import Derived.Test.YtoafabcopihniaaWSized
set_option linter.unusedVariables false
set_option linter.unusedSimpArgs false
namespace Go.Proofs.Ytoafabcopihniaa.PrintWords
open Go.ChangeShapes Go.WideShapes
/-- The printed row names the word so; it lies one namespace beside. -/
theorem sized_ints {H : Type} {enc : TypeId × Value → H} {P : Program} {W : World} {base : Nat} {spare : Nat → Bool} {held : Bool} {t e : TypeId} {k : IntKind} {a : Option Addr} {len cap : Nat} {d : DataW H} {ps : List MemPlace} {ts : List TypeId} {ds : List (DataW H)} {j : Nat}
    (hsz : (DataW.weightsEach P ts ds).all (· ≤ reachBytes) = true) (ht : ts[j]? = some t) (hd : ds[j]? = some d) (hu : P.underlying t = some (.slice e)) (he : P.underlying e = some (.int k)) (hc : P.cellsOf e = 1) {B : Nat} (hB : P.bytesOf e = B)
    (h : DataW.Trod enc P W base spare held t (.slice a len cap) d ps) : len * B ≤ 140737488351232 :=
  Go.Proofs.YtoafabcopihniaaW.PrintWords.sized_ints hsz ht hd hu he hc hB h
end Go.Proofs.Ytoafabcopihniaa.PrintWords
namespace Go.Proofs.Ytoafabcopihniaa.Pure
open Go.RowKit Go.Proofs.Ytoafabcopihniaa.QFnKeyedHash Go.Proofs.YtoafabcopihniaaW.PrintWords Go.Proofs.YtoafabcopihniaaW.PrintLast Go.Proofs.YtoafabcopihniaaW.PrintMore

theorem wrapS {x : Int} (h1 : -9223372036854775808 ≤ x) (h2 : x ≤ 9223372036854775807) : wrap64 x = x := by
  unfold wrap64
  omega
theorem i64wf {x : Int} (h : (Lit.int .i64 x).wf = true) : -9223372036854775808 ≤ x ∧ x ≤ 9223372036854775807 := by
  have h1 : (decide (IntKind.i64.min ≤ x) && decide (x ≤ IntKind.i64.max)) = true := h
  rw [Bool.and_eq_true, decide_eq_true_eq, decide_eq_true_eq] at h1
  exact h1
theorem u8wf {x : Int} (h : (Lit.int .u8 x).wf = true) : 0 ≤ x ∧ x ≤ 255 := by
  have h1 : (decide (IntKind.u8.min ≤ x) && decide (x ≤ IntKind.u8.max)) = true := h
  rw [Bool.and_eq_true, decide_eq_true_eq, decide_eq_true_eq] at h1
  exact h1
/-- What is told of some number of rounds is told of any three together. -/
theorem evNow {α : Type} {g : Option α} {r : α} (h : g = some r) : Ev (fun _ => g) r := ⟨0, fun _ _ => h⟩
theorem one_add_neg (n : Nat) : ((1 : Int) + (n : Int) < 0) = False := by
  simp only [eq_iff_iff, iff_false]
  omega

theorem set_take_succ {α : Type} (d : α) (o l : List α) (n : Nat) (ho : o.length = l.length) (hn : n < l.length) (ht : o.take n = l.take n) : (o.set n (l.getD n d)).take (n + 1) = l.take (n + 1) := by
  apply List.ext_getElem?
  intro j
  have hj := congrArg (fun t => t[j]?) ht
  simp only [List.getElem?_take] at hj ⊢
  by_cases h1 : j < n
  · rw [if_pos h1, if_pos h1] at hj
    rw [if_pos (by omega), if_pos (by omega), List.getElem?_set_ne (by omega)]
    exact hj
  · by_cases h2 : j = n
    · subst h2
      rw [if_pos (by omega), if_pos (by omega), List.getElem?_set_self (by omega), List.getElem?_eq_getElem hn, List.getD_eq_getElem?_getD, List.getElem?_eq_getElem hn]
      rfl
    · rw [if_neg (by omega), if_neg (by omega)]
theorem take_all {α : Type} {o l : List α} (n : Nat) (ho : o.length = l.length) (hn : l.length ≤ n) (ht : o.take n = l.take n) : o = l := by
  rw [List.take_of_length_le (by omega), List.take_of_length_le (by omega)] at ht
  exact ht

def hgo (d : Int) (l : List Int) : Int := l.foldl (fun d v => (d * 1000003 + v % 2147483647 + 13) % 2147483647) d
def hashOf (l : List Int) : Int := hgo 11 l
def khash (a : Int) (l : List Int) : Int := hashOf ([a] ++ l ++ [a])
theorem hgo_range (l : List Int) : ∀ d, 0 ≤ d → d < 2147483647 → 0 ≤ hgo d l ∧ hgo d l < 2147483647 := by
  induction l with
  | nil => intro d h1 h2; exact ⟨h1, h2⟩
  | cons v l ih => intro d h1 h2; exact ih ((d * 1000003 + v % 2147483647 + 13) % 2147483647) (by omega) (by omega)
theorem khash_range (a : Int) (l : List Int) : 0 ≤ khash a l ∧ khash a l < 2147483647 := hgo_range _ 11 (by omega) (by omega)
theorem drop_rd (l : List Int) (i : Int) (h0 : 0 ≤ i) (h1 : i < l.length) : l.drop i.toNat = rd l i :: l.drop (i + 1).toNat := by
  rw [show (i + 1).toNat = i.toNat + 1 from by omega, List.drop_eq_getElem_cons (by omega)]
  congr 1
  simp [rd, List.getD_eq_getElem?_getD, List.getElem?_eq_getElem (show i.toNat < l.length by omega)]
theorem hash_round (d v : Int) (h1 : 0 ≤ d) (h2 : d < 2147483647) : Int.tmod (wrap64 ((wrap64 ((wrap64 (d * 1000003)) + v % 2147483647)) + 13)) 2147483647 = (d * 1000003 + v % 2147483647 + 13) % 2147483647 := by
  rw [wrapS (x := d * 1000003) (by omega) (by omega), wrapS (x := d * 1000003 + v % 2147483647) (by omega) (by omega), wrapS (by omega) (by omega), Int.tmod_eq_emod_of_nonneg (by omega)]

theorem impl_InRange_is (a b c : Int) : impl_InRange.f a b c = some (decide (b ≤ a ∧ a ≤ c)) := by
  unfold impl_InRange.f
  by_cases h : b ≤ a <;> simp [h]

theorem mod_is (p q : Int) (h1 : 1 ≤ q) (h2 : q ≤ 1000000000000) : Int.tmod (wrap64 ((Int.tmod p q) + q)) q = p % q := by
  have e := Int.tmod_def p q
  have l1 := Int.lt_tmod_of_pos p (show 0 < q by omega)
  have l2 := Int.tmod_lt_of_pos p (show 0 < q by omega)
  rw [wrapS (by omega) (by omega), Int.tmod_eq_emod_of_nonneg (by omega), Int.add_emod_right, e, Int.sub_mul_emod_self_left]

theorem impl_Mod_is (p q : Int) (h1 : 1 ≤ q) (h2 : q ≤ 1000000000000) : impl_Mod.f p q = some (p % q) := by
  unfold impl_Mod.f
  simp only [impl_InRange_is, h1, h2, and_self, decide_true, Option.bind_some, if_true]
  rw [if_neg (by omega), mod_is p q h1 h2]

theorem impl_Hash_ev (l : List Int) (hl : l.length ≤ 70368744177664) : Ev (fun k => impl_Hash.f k l) (hashOf l) := by
  have key : ∀ (n : Nat) (d i : Int), 0 ≤ i → i + n = l.length → 0 ≤ d → d < 2147483647 → Ev (fun k => impl_Hash.l0 k d l (l.length : Int) i) (hgo d (l.drop i.toNat)) := by
    intro n
    induction n with
    | zero =>
      intro d i h0 hi hd hd2
      refine Ev.step (f := fun _ => some d) (fun k => ?_) ?_
      · simp only [impl_Hash.l0]
        rw [if_neg (by omega)]
      · rw [List.drop_eq_nil_of_le (by omega)]
        exact Ev.now _
    | succ n ih =>
      intro d i h0 hi hd hd2
      rw [drop_rd l i h0 (by omega)]
      refine Ev.step (f := fun k => impl_Hash.l0 k ((d * 1000003 + (rd l i) % 2147483647 + 13) % 2147483647) l (l.length : Int) (i + 1)) (fun k => ?_) (ih _ _ (by omega) (by omega) (by omega) (by omega))
      simp only [impl_Hash.l0]
      rw [if_pos (by omega), if_pos h0, if_pos (by omega), impl_Mod_is _ _ (by omega) (by omega)]
      simp only [Option.bind_some]
      rw [hash_round d _ hd hd2, wrapS (by omega) (by omega)]
  exact key l.length 11 0 (by omega) (by omega) (by omega) (by omega)

theorem impl_KeyedHash_ev (a : Int) (l : List Int) (hl : l.length ≤ 4194304) : Ev (fun k => impl_KeyedHash.f k a l) (khash a l) := by
  unfold impl_KeyedHash.f
  simp only [Option.bind_some]
  simp only [if_pos (show [a].length + l.length < 17592186044416 from by simp; omega), if_pos (show ([a] ++ l).length < 17592186044416 from by simp; omega)]
  refine Ev.bind (impl_Hash_ev _ (by simp; omega)) ?_
  exact Ev.now _

theorem impl_BytesToInts_ev (l : List Int) (hl : l.length ≤ 8388608) (hb : ∀ x ∈ l, 0 ≤ x ∧ x ≤ 255) : Ev (fun k => impl_BytesToInts.f k l) ((l.length : Int) :: l) := by
  have key : ∀ (n : Nat) (o : List Int) (i : Int), 0 ≤ i → i + n = l.length → o.length ≤ 8388608 + i.toNat → Ev (fun k => impl_BytesToInts.l0 k o l (l.length : Int) i) (o ++ l.drop i.toNat) := by
    intro n
    induction n with
    | zero =>
      intro o i h0 hi ho
      rw [List.drop_eq_nil_of_le (by omega), List.append_nil]
      refine Ev.step (f := fun _ => some o) (fun k => ?_) (Ev.now _)
      simp only [impl_BytesToInts.l0]
      rw [if_neg (by omega)]
    | succ n ih =>
      intro o i h0 hi ho
      have hx := hb (rd l i) (by
        simp only [rd, List.getD_eq_getElem?_getD, List.getElem?_eq_getElem (show i.toNat < l.length by omega), Option.getD_some]
        exact List.getElem_mem _)
      have hi2 := ih (o ++ [rd l i]) (i + 1) (by omega) (by omega) (by simp; omega)
      rw [List.append_assoc, List.singleton_append, ← drop_rd l i h0 (by omega)] at hi2
      refine Ev.step (f := fun k => impl_BytesToInts.l0 k (o ++ [rd l i]) l (l.length : Int) (i + 1)) (fun k => ?_) hi2
      simp only [impl_BytesToInts.l0]
      rw [if_pos (by omega), if_pos h0, if_pos (by omega), if_pos (by omega), wrapS (x := rd l i) (by omega) (by omega), wrapS (by omega) (by omega)]
  exact key l.length [(l.length : Int)] 0 (by omega) (by omega) (by simp)

theorem bytesOf_byte (s : ByteArray) : ∀ x ∈ bytesOf s, 0 ≤ x ∧ x ≤ 255 := by
  intro x hx
  simp only [bytesOf, List.mem_map] at hx
  obtain ⟨b, _, rfl⟩ := hx
  have := b.toNat_lt
  omega
theorem impl_DeriveFromString_ev (a : Int) (s : ByteArray) (hs : s.size ≤ 1048576) : Ev (fun k => impl_DeriveFromString.f k a s) (if khash a (((bytesOf s).length : Int) :: bytesOf s) = 0 then 1 else khash a (((bytesOf s).length : Int) :: bytesOf s)) := by
  have hl := bytesOf_length s
  have hb := bytesOf_byte s
  unfold impl_DeriveFromString.f
  rw [← hl] at hs
  simp only [← hl, if_pos (show (bytesOf s).length ≤ 140737488351232 from by omega)]
  generalize bytesOf s = l at hs hb ⊢
  refine Ev.bind (impl_BytesToInts_ev l (by omega) hb) ?_
  refine Ev.bind (impl_KeyedHash_ev a ((l.length : Int) :: l) (by simp; omega)) ?_
  generalize khash a ((l.length : Int) :: l) = t
  by_cases c : t = 0
  · simp only [if_pos c]; exact Ev.now _
  · simp only [if_neg c]; exact Ev.now _

theorem l1New_ex (l : List Int) (hl : l.length ≤ 1048576) : ∃ h, Ev (fun k => spec_l1New.f k l) (l, 0, h) := by
  have key : ∀ (d : Nat) (x i : Int), 0 ≤ i → i + d = l.length → ∃ h, Ev (fun k => spec_l1New.l0 k l x i) (l, 0, h) := by
    intro d
    induction d with
    | zero =>
      intro x i h0 hi
      refine ⟨x, Ev.step (f := fun _ => some (l, 0, x)) (fun k => ?_) (Ev.now _)⟩
      simp only [spec_l1New.l0]
      rw [if_neg (by omega)]
    | succ d ih =>
      intro x i h0 hi
      by_cases c : i < 4000
      · obtain ⟨h, hh⟩ := ih (Go.bits .and .i64 (wrap64 ((wrap64 ((wrap64 (x * 137)) + (wrap64 (rd l i)))) + 11)) 1073741823) (i + 1) (by omega) (by omega)
        refine ⟨h, Ev.step (fun k => ?_) hh⟩
        simp only [spec_l1New.l0]
        rw [if_pos (by omega), if_pos c, if_pos h0, wrapS (x := i + 1) (by omega) (by omega)]
      · refine ⟨x, Ev.step (f := fun _ => some (l, 0, x)) (fun k => ?_) (Ev.now _)⟩
        simp only [spec_l1New.l0]
        rw [if_pos (by omega), if_neg c]
  unfold spec_l1New.f
  exact key l.length _ 0 (by omega) (by omega)

theorem and255 (y : Int) : 0 ≤ Go.bits .and .i64 y 255 ∧ Go.bits .and .i64 y 255 ≤ 255 := by
  simp only [Go.bits, BitVec.toNat_and]
  have h : (BitVec.ofInt IntKind.i64.bits y).toNat &&& (BitVec.ofInt IntKind.i64.bits 255).toNat ≤ 255 := by
    have e : (BitVec.ofInt IntKind.i64.bits 255).toNat = 255 := by decide
    rw [e]
    exact Nat.and_le_right
  rw [IntKind.wrap_i64]
  omega
theorem l1Byte_ex (b : List Int) (i h : Int) (hi : 0 ≤ i) (hb : b.length ≤ 1048576) : ∃ x i' h', spec_l1Byte.f b i h = some (x, i', h') ∧ (0 ≤ x ∧ x ≤ 255) ∧ 0 ≤ i' := by
  unfold spec_l1Byte.f
  by_cases c : i < (b.length : Int)
  · rw [if_pos c, if_pos hi]
    exact ⟨_, _, _, rfl, and255 _, by rw [wrapS (by omega) (by omega)]; omega⟩
  · rw [if_neg c]
    exact ⟨_, _, _, rfl, and255 _, hi⟩

theorem l1Below_ex (b : List Int) (i h n : Int) (hi : 0 ≤ i) (hb : b.length ≤ 1048576) : ∃ x i' h', spec_l1Below.f b i h n = some (x, i', h') ∧ (n ≤ 0 → x = 0) ∧ (0 < n → 0 ≤ x ∧ x < n) ∧ 0 ≤ i' := by
  unfold spec_l1Below.f
  by_cases c : n ≤ 0
  · rw [if_pos c]
    exact ⟨_, _, _, rfl, fun _ => rfl, fun h => by omega, hi⟩
  · rw [if_neg c]
    have fin : ∀ v : Int, 0 ≤ v → 0 ≤ Int.tmod v n ∧ Int.tmod v n < n := by
      intro v hv
      rw [Int.tmod_eq_emod_of_nonneg hv]
      exact ⟨Int.emod_nonneg _ (by omega), Int.emod_lt_of_pos _ (by omega)⟩
    obtain ⟨x, i1, h1, e1, b1, g1⟩ := l1Byte_ex b i h hi hb
    by_cases c2 : n ≤ 256
    · rw [if_pos c2, e1]
      simp only [Option.bind_some]
      rw [if_neg (by omega)]
      exact ⟨_, _, _, rfl, fun h => absurd h c, fun _ => fin x b1.1, g1⟩
    · rw [if_neg c2, e1]
      obtain ⟨y, i2, h2, e2, b2, g2⟩ := l1Byte_ex b i1 h1 g1 hb
      obtain ⟨z, i3, h3, e3, b3, g3⟩ := l1Byte_ex b i2 h2 g2 hb
      simp only [Option.bind_some, e2, e3]
      rw [if_neg (by omega)]
      refine ⟨_, _, _, rfl, fun h => absurd h c, fun _ => fin _ ?_, g3⟩
      rw [wrapS (x := x * 65536) (by omega) (by omega), wrapS (x := y * 256) (by omega) (by omega), wrapS (x := x * 65536 + y * 256) (by omega) (by omega), wrapS (by omega) (by omega)]
      omega

theorem l1Once_ex (b : List Int) (i h n : Int) (hi : 0 ≤ i) (hb : b.length ≤ 1048576) : ∃ (x : Bool) (i' h' : Int), spec_l1Once.f b i h n = some (x, i', h') ∧ 0 ≤ i' := by
  unfold spec_l1Once.f
  obtain ⟨x, i1, h1, e1, _, _, g1⟩ := l1Below_ex b i h n hi hb
  rw [e1]
  exact ⟨_, _, _, rfl, g1⟩

theorem l1Int_ex (b : List Int) (i h : Int) (l : List Int) (hl : 0 < l.length) (hi : 0 ≤ i) (hb : b.length ≤ 1048576) : ∃ x i' h', spec_l1Int.f b i h l = some (x, i', h') ∧ x ∈ l ∧ 0 ≤ i' := by
  unfold spec_l1Int.f
  obtain ⟨x, i1, h1, e1, _, b1, g1⟩ := l1Below_ex b i h (l.length : Int) hi hb
  have b1 := b1 (by omega)
  rw [e1]
  simp only [Option.bind_some]
  rw [if_pos b1.1, if_pos b1.2]
  refine ⟨_, _, _, rfl, ?_, g1⟩
  simp only [rd, List.getD_eq_getElem?_getD, List.getElem?_eq_getElem (show x.toNat < l.length by omega), Option.getD_some]
  exact List.getElem_mem _

theorem l3Word_ex (b : List Int) (i h : Int) (hi : 0 ≤ i) (hb : b.length ≤ 1048576) : ∃ x i' h', spec_l3Word.f b i h = some (x, i', h') ∧ (-1 ≤ x ∧ x ≤ 2147483648) ∧ 0 ≤ i' := by
  unfold spec_l3Word.f
  obtain ⟨c1, i1, h1, e1, g1⟩ := l1Once_ex b i h 10 hi hb
  rw [e1]
  simp only [Option.bind_some]
  cases c1 with
  | true =>
    obtain ⟨x, i2, h2, e2, m2, g2⟩ := l1Int_ex b i1 h1 [-1, 2147483647, 2147483648] (by simp) g1 hb
    simp only [if_true, e2, Option.bind_some]
    refine ⟨_, _, _, rfl, ?_, g2⟩
    simp at m2
    omega
  | false =>
    obtain ⟨c2, i2, h2, e2, g2⟩ := l1Once_ex b i1 h1 4 g1 hb
    simp only [Bool.false_eq_true, if_false, e2, Option.bind_some]
    cases c2 with
    | true =>
      obtain ⟨x, i3, h3, e3, m3, g3⟩ := l1Int_ex b i2 h2 [0, 1, 2147483646] (by simp) g2 hb
      simp only [if_true, e3, Option.bind_some]
      refine ⟨_, _, _, rfl, ?_, g3⟩
      simp at m3
      omega
    | false =>
      obtain ⟨x, i3, h3, e3, _, b3, g3⟩ := l1Below_ex b i2 h2 1000000 g2 hb
      obtain ⟨y, i4, h4, e4, _, b4, g4⟩ := l1Below_ex b i3 h3 2000 g3 hb
      have b3 := b3 (by omega)
      have b4 := b4 (by omega)
      simp only [Bool.false_eq_true, if_false, e3, e4, Option.bind_some]
      have u : x * y ≤ 999999 * 1999 := Int.mul_le_mul (by omega) (by omega) b4.1 (by omega)
      have v : 0 ≤ x * y := Int.mul_nonneg b3.1 b4.1
      refine ⟨_, _, _, rfl, ?_, g4⟩
      rw [wrapS (by omega) (by omega)]
      omega

theorem l1Str_ex (b : List Int) (i h : Int) (l : List ByteArray) (hl : 0 < l.length) (hi : 0 ≤ i) (hb : b.length ≤ 1048576) : ∃ x i' h', spec_l1Str.f b i h l = some (x, i', h') ∧ x ∈ l ∧ 0 ≤ i' := by
  unfold spec_l1Str.f
  obtain ⟨x, i1, h1, e1, _, b1, g1⟩ := l1Below_ex b i h (l.length : Int) hi hb
  have b1 := b1 (by omega)
  rw [e1]
  simp only [Option.bind_some]
  rw [if_pos b1.1, if_pos b1.2]
  refine ⟨_, _, _, rfl, ?_, g1⟩
  simp only [rdOf, List.getD_eq_getElem?_getD, List.getElem?_eq_getElem (show x.toNat < l.length by omega), Option.getD_some]
  exact List.getElem_mem _

theorem spec_l1In_is (a b c : Int) : spec_l1In.f a b c = some (decide (b ≤ a ∧ a ≤ c)) := by
  unfold spec_l1In.f
  by_cases h : b ≤ a <;> simp [h]

theorem spec_Mod_is (p q : Int) (h1 : 1 ≤ q) (h2 : q ≤ 1000000000000) : spec_Mod.f p q = some (p % q) := by
  unfold spec_Mod.f
  simp only [spec_l1In_is, h1, h2, and_self, decide_true, Option.bind_some, if_true]
  rw [if_neg (by omega), mod_is p q h1 h2]

theorem rd_byte (l : List Int) (hb : ∀ x ∈ l, 0 ≤ x ∧ x ≤ 255) (i : Int) (h0 : 0 ≤ i) (h1 : i < l.length) : 0 ≤ rd l i ∧ rd l i ≤ 255 := by
  refine hb _ ?_
  simp only [rd, List.getD_eq_getElem?_getD, List.getElem?_eq_getElem (show i.toNat < l.length by omega), Option.getD_some]
  exact List.getElem_mem _
theorem laws_at_ex (l : List Int) (i : Int) (hl : l.length ≤ 1048576) (hb : ∀ x ∈ l, 0 ≤ x ∧ x ≤ 255) (h0 : 0 ≤ i) (h1 : i ≤ 1000) : ∃ x, laws_at.f l i = some x ∧ 0 ≤ x ∧ x ≤ 255 := by
  unfold laws_at.f
  by_cases c : i < (l.length : Int)
  · have hx := rd_byte l hb i h0 c
    rw [if_pos c, if_pos h0, wrapS (by omega) (by omega)]
    exact ⟨_, rfl, hx⟩
  · rw [if_neg c, wrapS (x := i * 31) (by omega) (by omega), wrapS (x := (l.length : Int) * 7) (by omega) (by omega), wrapS (by omega) (by omega), Int.tmod_eq_emod_of_nonneg (by omega)]
    exact ⟨_, rfl, by omega, by omega⟩
theorem hmul_inj (t q : Int) (h0 : -2147483647 < t) (h1 : t < 2147483647) (h : 1000003 * t = 2147483647 * q) : t = 0 := by
  have e : t = 2147483647 * (1523789695 * q - 709572 * t) := by omega
  generalize 1523789695 * q - 709572 * t = s at e
  omega
theorem hlin (d e z q1 q2 r : Int) (m1 : r + 2147483647 * q1 = d * 1000003 + z + 13) (m2 : r + 2147483647 * q2 = e * 1000003 + z + 13) : 1000003 * (d - e) = 2147483647 * (q1 - q2) := by
  rw [Int.mul_sub, Int.mul_sub]
  omega
theorem hstep_ne (d e x : Int) (d0 : 0 ≤ d) (d1 : d < 2147483647) (e0 : 0 ≤ e) (e1 : e < 2147483647) (h : d ≠ e) : (d * 1000003 + x % 2147483647 + 13) % 2147483647 ≠ (e * 1000003 + x % 2147483647 + 13) % 2147483647 := by
  have r1 : -2147483647 < d - e := by omega
  have r2 : d - e < 2147483647 := by omega
  have r3 : d - e ≠ 0 := by omega
  clear d0 d1 e0 e1 h
  intro hc
  have m1 := Int.emod_add_mul_ediv (d * 1000003 + x % 2147483647 + 13) 2147483647
  have m2 := Int.emod_add_mul_ediv (e * 1000003 + x % 2147483647 + 13) 2147483647
  rw [hc] at m1
  exact r3 (hmul_inj (d - e) _ r1 r2 (hlin d e _ _ _ _ m1 m2))
theorem hstep_ne2 (d x y : Int) (h : x % 2147483647 ≠ y % 2147483647) : (d * 1000003 + x % 2147483647 + 13) % 2147483647 ≠ (d * 1000003 + y % 2147483647 + 13) % 2147483647 := by
  have x0 : 0 ≤ x % 2147483647 := Int.emod_nonneg _ (by decide)
  have x1 : x % 2147483647 < 2147483647 := Int.emod_lt_of_pos _ (by decide)
  have y0 : 0 ≤ y % 2147483647 := Int.emod_nonneg _ (by decide)
  have y1 : y % 2147483647 < 2147483647 := Int.emod_lt_of_pos _ (by decide)
  generalize x % 2147483647 = a at h x0 x1 ⊢
  generalize y % 2147483647 = b at h y0 y1 ⊢
  generalize d * 1000003 = c
  omega
theorem hgo_cons (d v : Int) (l : List Int) : hgo d (v :: l) = hgo ((d * 1000003 + v % 2147483647 + 13) % 2147483647) l := by simp only [hgo, List.foldl_cons]
theorem hgo_ne (l : List Int) : ∀ d e : Int, 0 ≤ d → d < 2147483647 → 0 ≤ e → e < 2147483647 → d ≠ e → hgo d l ≠ hgo e l := by
  induction l with
  | nil => intro d e _ _ _ _ h; exact h
  | cons v l ih =>
    intro d e d0 d1 e0 e1 h
    have hs := hstep_ne d e v d0 d1 e0 e1 h
    rw [hgo_cons, hgo_cons]
    refine ih _ _ ?_ ?_ ?_ ?_ hs
    · exact Int.emod_nonneg _ (by decide)
    · exact Int.emod_lt_of_pos _ (by decide)
    · exact Int.emod_nonneg _ (by decide)
    · exact Int.emod_lt_of_pos _ (by decide)
theorem hgo_set (l : List Int) (v : Int) : ∀ (i : Nat) (d : Int), i < l.length → v % 2147483647 ≠ l.getD i 0 % 2147483647 → hgo d (l.set i v) ≠ hgo d l := by
  induction l with
  | nil => intro i d hi; simp at hi
  | cons x l ih =>
    intro i d hi h
    cases i with
    | zero =>
      have hs := hstep_ne2 d v x (by simpa using h)
      rw [List.set_cons_zero, hgo_cons, hgo_cons]
      refine hgo_ne l _ _ ?_ ?_ ?_ ?_ hs
      · exact Int.emod_nonneg _ (by decide)
      · exact Int.emod_lt_of_pos _ (by decide)
      · exact Int.emod_nonneg _ (by decide)
      · exact Int.emod_lt_of_pos _ (by decide)
    | succ i =>
      rw [List.set_cons_succ, hgo_cons, hgo_cons]
      exact ih i _ (by simpa using hi) (by simpa using h)
theorem hgo_append (l r : List Int) : ∀ d, hgo d (l ++ r) = hgo (hgo d l) r := by
  intro d; simp [hgo]
theorem khash_set (a : Int) (l : List Int) (i : Nat) (v : Int) (hi : i < l.length) (h : v % 2147483647 ≠ l.getD i 0 % 2147483647) : khash a (l.set i v) ≠ khash a l := by
  unfold khash hashOf
  rw [List.append_assoc, List.append_assoc, hgo_append, hgo_append, hgo_append, hgo_append]
  have r := hgo_range [a] 11 (by omega) (by omega)
  have r1 := hgo_range (l.set i v) (hgo 11 [a]) r.1 r.2
  have r2 := hgo_range l (hgo 11 [a]) r.1 r.2
  exact hgo_ne [a] _ _ r1.1 r1.2 r2.1 r2.2 (hgo_set l v i _ hi h)
theorem l3Words_ex (b : List Int) (i h : Int) (hi : 0 ≤ i) (hb : b.length ≤ 1048576) : ∃ (o : List Int) (i' h' : Int), Ev (fun k => spec_l3Words.f k b i h) (o, i', h') ∧ (∀ x ∈ o, -1 ≤ x ∧ x ≤ 2147483648) ∧ o.length ≤ 4 ∧ 0 ≤ i' := by
  have key : ∀ (d : Nat) (o : List Int) (j i h : Int), j = d → d ≤ 4 → o.length + d ≤ 4 → (∀ x ∈ o, -1 ≤ x ∧ x ≤ 2147483648) → 0 ≤ i → ∃ (o' : List Int) (i' h' : Int), Ev (fun k => spec_l3Words.l0 k o j b i h) (o', i', h') ∧ (∀ x ∈ o', -1 ≤ x ∧ x ≤ 2147483648) ∧ o'.length ≤ 4 ∧ 0 ≤ i' := by
    intro d
    induction d with
    | zero =>
      intro o j i h hj hd ho hx hi
      refine ⟨o, i, h, Ev.step (f := fun _ => some (o, i, h)) (fun k => ?_) (Ev.now _), hx, by omega, hi⟩
      simp only [spec_l3Words.l0]
      rw [if_neg (by omega)]
    | succ d ih =>
      intro o j i h hj hd ho hx hi
      obtain ⟨x, i1, h1, e1, b1, g1⟩ := l3Word_ex b i h hi hb
      obtain ⟨o', i', h', hE, hx', hl', hi'⟩ := ih (o ++ [x]) (j - 1) i1 h1 (by omega) (by omega) (by simp; omega) (by
        intro y hy
        rcases List.mem_append.1 hy with h | h
        · exact hx y h
        · simp at h; omega) g1
      refine ⟨o', i', h', Ev.step (fun k => ?_) hE, hx', hl', hi'⟩
      simp only [spec_l3Words.l0, e1, Option.bind_some]
      rw [if_pos (by omega), if_pos (by omega), wrapS (x := j - 1) (by omega) (by omega)]
  obtain ⟨n, i1, h1, e1, _, b1, g1⟩ := l1Below_ex b i h 5 hi hb
  have b1 := b1 (by omega)
  unfold spec_l3Words.f
  rw [e1]
  exact key n.toNat [] n i1 h1 (by omega) (by omega) (by simp; omega) (fun x hx => by simp at hx) g1
theorem DrawKeyedHash_ex (l : List Int) (hl : l.length ≤ 1048576) : ∃ (key : Int) (o : List Int), Ev (fun k => spec_DrawKeyedHash.f k l) (key, o) ∧ (∀ x ∈ o, -1 ≤ x ∧ x ≤ 2147483648) ∧ o.length ≤ 4 := by
  obtain ⟨h, hn⟩ := l1New_ex l hl
  obtain ⟨key, i1, h1, e1, b1, g1⟩ := l3Word_ex l 0 h (by omega) hl
  obtain ⟨o, i2, h2, hE, hx, hlen, g2⟩ := l3Words_ex l i1 h1 g1 hl
  refine ⟨key, o, ?_, hx, hlen⟩
  unfold spec_DrawKeyedHash.f
  refine Ev.bind hn ?_
  simp only [e1, Option.bind_some]
  exact Ev.bind hE (Ev.now _)
theorem DrawDerive_ex (l : List Int) (hl : l.length ≤ 1048576) : ∃ (key : Int) (s : ByteArray), Ev (fun k => spec_DrawDeriveFromString.f k l) (key, s) ∧ s.size ≤ 1048576 := by
  obtain ⟨h, hn⟩ := l1New_ex l hl
  obtain ⟨key, i1, h1, e1, b1, g1⟩ := l3Word_ex l 0 h (by omega) hl
  obtain ⟨s, i2, h2, e2, hs, g2⟩ := l1Str_ex l i1 h1 [(⟨#[]⟩ : ByteArray), (⟨#[97]⟩ : ByteArray), (⟨#[98]⟩ : ByteArray), (⟨#[97, 98]⟩ : ByteArray), (⟨#[110, 101, 119, 115]⟩ : ByteArray), (⟨#[120]⟩ : ByteArray)] (by decide) g1 hl
  refine ⟨key, s, ?_, ?_⟩
  · unfold spec_DrawDeriveFromString.f
    refine Ev.bind hn ?_
    simp only [e1, e2, Option.bind_some]
    exact Ev.now _
  · simp only [List.mem_cons, List.not_mem_nil, or_false] at hs
    rcases hs with rfl | rfl | rfl | rfl | rfl | rfl <;> decide
theorem kh_tail (l : List Int) (hl : l.length ≤ 1048576) : Ev (fun k => (spec_DrawDeriveFromString.f k l).bind fun bt240 => ((impl_DeriveFromString.f k bt240.1 bt240.2).bind fun t242 => ((impl_IsValidKey.f t242).bind fun t243 => (some t243)))) true := by
  obtain ⟨key, s, hE, hs⟩ := DrawDerive_ex l hl
  refine Ev.bind (hE) ?_
  refine Ev.bind (impl_DeriveFromString_ev key s hs) ?_
  have hk := khash_range key (((bytesOf s).length : Int) :: bytesOf s)
  generalize khash key (((bytesOf s).length : Int) :: bytesOf s) = t at hk ⊢
  have : impl_IsValidKey.f (if t = 0 then 1 else t) = some true := by
    unfold impl_IsValidKey.f
    rw [impl_InRange_is]
    have h1 : (1 : Int) ≤ (if t = 0 then 1 else t) ∧ (if t = 0 then 1 else t) ≤ 2147483646 := by split <;> omega
    simp only [h1, and_self, decide_true, Option.bind_some]
  simp only [this, Option.bind_some]
  exact Ev.now _
theorem FnKeyedHash : laws_FnKeyedHash.Pure := by
  intro l _ _ hwf
  apply Ev.rounds
  unfold laws_FnKeyedHash.f laws_big.f
  simp only [Option.bind_some]
  by_cases h1 : (l.length : Int) > 1048576
  · simp only [decide_eq_true h1, if_true]; exact Ev.now _
  simp only [decide_eq_false h1, Bool.false_eq_true, if_false]
  have hby : ∀ x ∈ l, 0 ≤ x ∧ x ≤ 255 := fun x hx => u8wf (hwf x hx)
  obtain ⟨key, o, hE, hb, hlen⟩ := DrawKeyedHash_ex l (by omega)
  have hT := kh_tail l (by omega)
  refine Ev.bind (hE) ?_
  refine Ev.bind (impl_KeyedHash_ev key o (by omega)) ?_
  have hk := khash_range key o
  simp only [if_neg (show ¬ khash key o < 0 from by omega), if_neg (show ¬ khash key o ≥ 2147483647 from by omega)]
  simp only [if_pos (show [key].length + o.length < 17592186044416 from by simp; omega), if_pos (show ([key] ++ o).length < 17592186044416 from by simp; omega)]
  refine Ev.bind (impl_Hash_ev ([key] ++ o ++ [key]) (by simp; omega)) ?_
  rw [show (khash key o != hashOf ([key] ++ o ++ [key])) = false from by simp [khash]]
  refine Ev.step (fun k => by simp only [laws_FnKeyedHash.j0]; rfl) ?_
  simp only [Bool.false_eq_true, if_false]
  by_cases c : (o.length : Int) > 0
  · simp only [if_pos c]
    obtain ⟨x0, a0, b0⟩ := laws_at_ex l 0 (by omega) hby (by omega) (by omega)
    obtain ⟨x1, a1, b1⟩ := laws_at_ex l 1 (by omega) hby (by omega) (by omega)
    simp only [List.nil_append, List.length_nil, Nat.zero_add, a0, a1, Option.bind_some, if_pos (show o.length < 17592186044416 from by omega), if_neg (show ¬ (o.length : Int) = 0 from by omega), Int.tmod_eq_emod_of_nonneg b0.1]
    have i0 : 0 ≤ x0 % (o.length : Int) := Int.emod_nonneg _ (by omega)
    have i1 : x0 % (o.length : Int) < o.length := Int.emod_lt_of_pos _ (by omega)
    generalize x0 % (o.length : Int) = i at i0 i1 ⊢
    simp only [if_pos i0, if_pos i1]
    have hx := hb (o.getD i.toNat 0) (by
      simp only [List.getD_eq_getElem?_getD, List.getElem?_eq_getElem (show i.toNat < o.length by omega), Option.getD_some]
      exact List.getElem_mem _)
    have hrd : rd o i = o.getD i.toNat 0 := rfl
    rw [hrd]
    have hne : (o.getD i.toNat 0 + 1 + x1) % 2147483647 % 2147483647 ≠ o.getD i.toNat 0 % 2147483647 := by omega
    generalize hv : o.getD i.toNat 0 = v at hx hne ⊢
    rw [wrapS (x := v + 1) (by omega) (by omega), wrapS (by omega) (by omega)]
    simp only [spec_Mod_is (v + 1 + x1) 2147483647 (by omega) (by omega), Option.bind_some]
    refine Ev.bind (impl_KeyedHash_ev key (o.set i.toNat ((v + 1 + x1) % 2147483647)) (by simp; omega)) ?_
    have hz := khash_set key o i.toNat ((v + 1 + x1) % 2147483647) (by omega) (by rw [hv]; exact hne)
    simp only [if_neg hz]
    exact hT
  · simp only [if_neg c]
    exact hT

end Go.Proofs.Ytoafabcopihniaa.Pure
