/- FnCipher answers true, for each list of bytes. -/
import Derived.Test.YtcdiajjadgbngaaQFnCipherx2
import Derived.Test.YtcdiajjadgbngaaWSized
set_option linter.unusedVariables false
set_option linter.unusedSimpArgs false
namespace Go.Proofs.Ytcdiajjadgbngaa.PrintWords
open Go.ChangeShapes Go.WideShapes
/-- The printed row names the word so; it lies one namespace beside. -/
theorem sized_ints {H : Type} {enc : TypeId × Value → H} {P : Program} {W : World} {base : Nat} {spare : Nat → Bool} {held : Bool} {t e : TypeId} {k : IntKind} {a : Option Addr} {len cap : Nat} {d : DataW H} {ps : List MemPlace} {ts : List TypeId} {ds : List (DataW H)} {j : Nat}
    (hsz : (DataW.weightsEach P ts ds).all (· ≤ reachBytes) = true) (ht : ts[j]? = some t) (hd : ds[j]? = some d) (hu : P.underlying t = some (.slice e)) (he : P.underlying e = some (.int k)) (hc : P.cellsOf e = 1) {B : Nat} (hB : P.bytesOf e = B)
    (h : DataW.Trod enc P W base spare held t (.slice a len cap) d ps) : len * B ≤ 140737488351232 :=
  Go.Proofs.YtcdiajjadgbngaaW.PrintWords.sized_ints hsz ht hd hu he hc hB h
end Go.Proofs.Ytcdiajjadgbngaa.PrintWords
namespace Go.Proofs.Ytcdiajjadgbngaa.Pure
open Go.RowKit Go.Proofs.Ytcdiajjadgbngaa.QFnCipher Go.Proofs.YtcdiajjadgbngaaW.PrintWords Go.Proofs.YtcdiajjadgbngaaW.PrintLast Go.Proofs.YtcdiajjadgbngaaW.PrintMore

theorem wrapS {x : Int} (h1 : -9223372036854775808 ≤ x) (h2 : x ≤ 9223372036854775807) : wrap64 x = x := by
  unfold wrap64
  omega
theorem i64wf {x : Int} (h : (Lit.int .i64 x).wf = true) : -9223372036854775808 ≤ x ∧ x ≤ 9223372036854775807 := by
  have h1 : (decide (IntKind.i64.min ≤ x) && decide (x ≤ IntKind.i64.max)) = true := h
  rw [Bool.and_eq_true, decide_eq_true_eq, decide_eq_true_eq] at h1
  exact h1
theorem u8wf {x : Int} (h : (Lit.int .u8 x).wf = true) : 0 ≤ x ∧ x ≤ 255 := by
  have h1 : (decide (IntKind.u8.min ≤ x) && decide (x ≤ IntKind.u8.max)) = true := h
  rw [Bool.and_eq_true, decide_eq_true_eq, decide_eq_true_eq] at h1
  exact h1
/-- What is told of some number of rounds is told of any three together. -/
theorem evNow {α : Type} {g : Option α} {r : α} (h : g = some r) : Ev (fun _ => g) r := ⟨0, fun _ _ => h⟩
theorem one_add_neg (n : Nat) : ((1 : Int) + (n : Int) < 0) = False := by
  simp only [eq_iff_iff, iff_false]
  omega

theorem set_take_succ {α : Type} (d : α) (o l : List α) (n : Nat) (ho : o.length = l.length) (hn : n < l.length) (ht : o.take n = l.take n) : (o.set n (l.getD n d)).take (n + 1) = l.take (n + 1) := by
  apply List.ext_getElem?
  intro j
  have hj := congrArg (fun t => t[j]?) ht
  simp only [List.getElem?_take] at hj ⊢
  by_cases h1 : j < n
  · rw [if_pos h1, if_pos h1] at hj
    rw [if_pos (by omega), if_pos (by omega), List.getElem?_set_ne (by omega)]
    exact hj
  · by_cases h2 : j = n
    · subst h2
      rw [if_pos (by omega), if_pos (by omega), List.getElem?_set_self (by omega), List.getElem?_eq_getElem hn, List.getD_eq_getElem?_getD, List.getElem?_eq_getElem hn]
      rfl
    · rw [if_neg (by omega), if_neg (by omega)]
theorem take_all {α : Type} {o l : List α} (n : Nat) (ho : o.length = l.length) (hn : l.length ≤ n) (ht : o.take n = l.take n) : o = l := by
  rw [List.take_of_length_le (by omega), List.take_of_length_le (by omega)] at ht
  exact ht

def hgo (d : Int) (l : List Int) : Int := l.foldl (fun d v => (d * 1000003 + v % 2147483647 + 13) % 2147483647) d
def hashOf (l : List Int) : Int := hgo 11 l
def khash (a : Int) (l : List Int) : Int := hashOf ([a] ++ l ++ [a])
theorem hgo_range (l : List Int) : ∀ d, 0 ≤ d → d < 2147483647 → 0 ≤ hgo d l ∧ hgo d l < 2147483647 := by
  induction l with
  | nil => intro d h1 h2; exact ⟨h1, h2⟩
  | cons v l ih => intro d h1 h2; exact ih ((d * 1000003 + v % 2147483647 + 13) % 2147483647) (by omega) (by omega)
theorem khash_range (a : Int) (l : List Int) : 0 ≤ khash a l ∧ khash a l < 2147483647 := hgo_range _ 11 (by omega) (by omega)
theorem drop_rd (l : List Int) (i : Int) (h0 : 0 ≤ i) (h1 : i < l.length) : l.drop i.toNat = rd l i :: l.drop (i + 1).toNat := by
  rw [show (i + 1).toNat = i.toNat + 1 from by omega, List.drop_eq_getElem_cons (by omega)]
  congr 1
  simp [rd, List.getD_eq_getElem?_getD, List.getElem?_eq_getElem (show i.toNat < l.length by omega)]
theorem hash_round (d v : Int) (h1 : 0 ≤ d) (h2 : d < 2147483647) : Int.tmod (wrap64 ((wrap64 ((wrap64 (d * 1000003)) + v % 2147483647)) + 13)) 2147483647 = (d * 1000003 + v % 2147483647 + 13) % 2147483647 := by
  rw [wrapS (x := d * 1000003) (by omega) (by omega), wrapS (x := d * 1000003 + v % 2147483647) (by omega) (by omega), wrapS (by omega) (by omega), Int.tmod_eq_emod_of_nonneg (by omega)]

theorem l1New_ex (l : List Int) (hl : l.length ≤ 1048576) : ∃ h, Ev (fun k => spec_l1New.f k l) (l, 0, h) := by
  have key : ∀ (d : Nat) (x i : Int), 0 ≤ i → i + d = l.length → ∃ h, Ev (fun k => spec_l1New.l0 k l x i) (l, 0, h) := by
    intro d
    induction d with
    | zero =>
      intro x i h0 hi
      refine ⟨x, Ev.step (f := fun _ => some (l, 0, x)) (fun k => ?_) (Ev.now _)⟩
      simp only [spec_l1New.l0]
      rw [if_neg (by omega)]
    | succ d ih =>
      intro x i h0 hi
      by_cases c : i < 4000
      · obtain ⟨h, hh⟩ := ih (Go.bits .and .i64 (wrap64 ((wrap64 ((wrap64 (x * 137)) + (wrap64 (rd l i)))) + 11)) 1073741823) (i + 1) (by omega) (by omega)
        refine ⟨h, Ev.step (fun k => ?_) hh⟩
        simp only [spec_l1New.l0]
        rw [if_pos (by omega), if_pos c, if_pos h0, wrapS (x := i + 1) (by omega) (by omega)]
      · refine ⟨x, Ev.step (f := fun _ => some (l, 0, x)) (fun k => ?_) (Ev.now _)⟩
        simp only [spec_l1New.l0]
        rw [if_pos (by omega), if_neg c]
  unfold spec_l1New.f
  exact key l.length _ 0 (by omega) (by omega)

theorem and255 (y : Int) : 0 ≤ Go.bits .and .i64 y 255 ∧ Go.bits .and .i64 y 255 ≤ 255 := by
  simp only [Go.bits, BitVec.toNat_and]
  have h : (BitVec.ofInt IntKind.i64.bits y).toNat &&& (BitVec.ofInt IntKind.i64.bits 255).toNat ≤ 255 := by
    have e : (BitVec.ofInt IntKind.i64.bits 255).toNat = 255 := by decide
    rw [e]
    exact Nat.and_le_right
  rw [IntKind.wrap_i64]
  omega
theorem l1Byte_ex (b : List Int) (i h : Int) (hi : 0 ≤ i) (hb : b.length ≤ 1048576) : ∃ x i' h', spec_l1Byte.f b i h = some (x, i', h') ∧ (0 ≤ x ∧ x ≤ 255) ∧ 0 ≤ i' := by
  unfold spec_l1Byte.f
  by_cases c : i < (b.length : Int)
  · rw [if_pos c, if_pos hi]
    exact ⟨_, _, _, rfl, and255 _, by rw [wrapS (by omega) (by omega)]; omega⟩
  · rw [if_neg c]
    exact ⟨_, _, _, rfl, and255 _, hi⟩

theorem l1Below_ex (b : List Int) (i h n : Int) (hi : 0 ≤ i) (hb : b.length ≤ 1048576) : ∃ x i' h', spec_l1Below.f b i h n = some (x, i', h') ∧ (n ≤ 0 → x = 0) ∧ (0 < n → 0 ≤ x ∧ x < n) ∧ 0 ≤ i' := by
  unfold spec_l1Below.f
  by_cases c : n ≤ 0
  · rw [if_pos c]
    exact ⟨_, _, _, rfl, fun _ => rfl, fun h => by omega, hi⟩
  · rw [if_neg c]
    have fin : ∀ v : Int, 0 ≤ v → 0 ≤ Int.tmod v n ∧ Int.tmod v n < n := by
      intro v hv
      rw [Int.tmod_eq_emod_of_nonneg hv]
      exact ⟨Int.emod_nonneg _ (by omega), Int.emod_lt_of_pos _ (by omega)⟩
    obtain ⟨x, i1, h1, e1, b1, g1⟩ := l1Byte_ex b i h hi hb
    by_cases c2 : n ≤ 256
    · rw [if_pos c2, e1]
      simp only [Option.bind_some]
      rw [if_neg (by omega)]
      exact ⟨_, _, _, rfl, fun h => absurd h c, fun _ => fin x b1.1, g1⟩
    · rw [if_neg c2, e1]
      obtain ⟨y, i2, h2, e2, b2, g2⟩ := l1Byte_ex b i1 h1 g1 hb
      obtain ⟨z, i3, h3, e3, b3, g3⟩ := l1Byte_ex b i2 h2 g2 hb
      simp only [Option.bind_some, e2, e3]
      rw [if_neg (by omega)]
      refine ⟨_, _, _, rfl, fun h => absurd h c, fun _ => fin _ ?_, g3⟩
      rw [wrapS (x := x * 65536) (by omega) (by omega), wrapS (x := y * 256) (by omega) (by omega), wrapS (x := x * 65536 + y * 256) (by omega) (by omega), wrapS (by omega) (by omega)]
      omega

theorem l1Once_ex (b : List Int) (i h n : Int) (hi : 0 ≤ i) (hb : b.length ≤ 1048576) : ∃ (x : Bool) (i' h' : Int), spec_l1Once.f b i h n = some (x, i', h') ∧ 0 ≤ i' := by
  unfold spec_l1Once.f
  obtain ⟨x, i1, h1, e1, _, _, g1⟩ := l1Below_ex b i h n hi hb
  rw [e1]
  exact ⟨_, _, _, rfl, g1⟩

theorem l1Int_ex (b : List Int) (i h : Int) (l : List Int) (hl : 0 < l.length) (hi : 0 ≤ i) (hb : b.length ≤ 1048576) : ∃ x i' h', spec_l1Int.f b i h l = some (x, i', h') ∧ x ∈ l ∧ 0 ≤ i' := by
  unfold spec_l1Int.f
  obtain ⟨x, i1, h1, e1, _, b1, g1⟩ := l1Below_ex b i h (l.length : Int) hi hb
  have b1 := b1 (by omega)
  rw [e1]
  simp only [Option.bind_some]
  rw [if_pos b1.1, if_pos b1.2]
  refine ⟨_, _, _, rfl, ?_, g1⟩
  simp only [rd, List.getD_eq_getElem?_getD, List.getElem?_eq_getElem (show x.toNat < l.length by omega), Option.getD_some]
  exact List.getElem_mem _

theorem l3Word_ex (b : List Int) (i h : Int) (hi : 0 ≤ i) (hb : b.length ≤ 1048576) : ∃ x i' h', spec_l3Word.f b i h = some (x, i', h') ∧ (-1 ≤ x ∧ x ≤ 2147483648) ∧ 0 ≤ i' := by
  unfold spec_l3Word.f
  obtain ⟨c1, i1, h1, e1, g1⟩ := l1Once_ex b i h 10 hi hb
  rw [e1]
  simp only [Option.bind_some]
  cases c1 with
  | true =>
    obtain ⟨x, i2, h2, e2, m2, g2⟩ := l1Int_ex b i1 h1 [-1, 2147483647, 2147483648] (by simp) g1 hb
    simp only [if_true, e2, Option.bind_some]
    refine ⟨_, _, _, rfl, ?_, g2⟩
    simp at m2
    omega
  | false =>
    obtain ⟨c2, i2, h2, e2, g2⟩ := l1Once_ex b i1 h1 4 g1 hb
    simp only [Bool.false_eq_true, if_false, e2, Option.bind_some]
    cases c2 with
    | true =>
      obtain ⟨x, i3, h3, e3, m3, g3⟩ := l1Int_ex b i2 h2 [0, 1, 2147483646] (by simp) g2 hb
      simp only [if_true, e3, Option.bind_some]
      refine ⟨_, _, _, rfl, ?_, g3⟩
      simp at m3
      omega
    | false =>
      obtain ⟨x, i3, h3, e3, _, b3, g3⟩ := l1Below_ex b i2 h2 1000000 g2 hb
      obtain ⟨y, i4, h4, e4, _, b4, g4⟩ := l1Below_ex b i3 h3 2000 g3 hb
      have b3 := b3 (by omega)
      have b4 := b4 (by omega)
      simp only [Bool.false_eq_true, if_false, e3, e4, Option.bind_some]
      have u : x * y ≤ 999999 * 1999 := Int.mul_le_mul (by omega) (by omega) b4.1 (by omega)
      have v : 0 ≤ x * y := Int.mul_nonneg b3.1 b4.1
      refine ⟨_, _, _, rfl, ?_, g4⟩
      rw [wrapS (by omega) (by omega)]
      omega

theorem l1Bytes_ex (b : List Int) (i h n : Int) (hi : 0 ≤ i) (hb : b.length ≤ 1048576) (hn : n ≤ 1000000) : ∃ (o : List Int) (i' h' : Int), Ev (fun k => spec_l1Bytes.f k b i h n) (o, i', h') ∧ (∀ x ∈ o, 0 ≤ x ∧ x ≤ 255) ∧ o.length = n.toNat ∧ 0 ≤ i' := by
  have key : ∀ (d : Nat) (o : List Int) (j i h : Int), 0 ≤ j → j + d = n.toNat → o.length = j.toNat → (∀ x ∈ o, 0 ≤ x ∧ x ≤ 255) → 0 ≤ i → ∃ (o' : List Int) (i' h' : Int), Ev (fun k => spec_l1Bytes.l0 k n o j b i h) (o', i', h') ∧ (∀ x ∈ o', 0 ≤ x ∧ x ≤ 255) ∧ o'.length = n.toNat ∧ 0 ≤ i' := by
    intro d
    induction d with
    | zero =>
      intro o j i h h0 hj ho hx hi
      refine ⟨o, i, h, Ev.step (f := fun _ => some (o, i, h)) (fun k => ?_) (Ev.now _), hx, by omega, hi⟩
      simp only [spec_l1Bytes.l0]
      rw [if_neg (by omega)]
    | succ d ih =>
      intro o j i h h0 hj ho hx hi
      obtain ⟨x, i1, h1, e1, b1, g1⟩ := l1Byte_ex b i h hi hb
      obtain ⟨o', i', h', hE, hx', hl', hi'⟩ := ih (o ++ [x % 256]) (j + 1) i1 h1 (by omega) (by omega) (by simp; omega) (by
        intro y hy
        rcases List.mem_append.1 hy with h | h
        · exact hx y h
        · simp at h; omega) g1
      refine ⟨o', i', h', Ev.step (fun k => ?_) hE, hx', hl', hi'⟩
      simp only [spec_l1Bytes.l0, e1, Option.bind_some]
      rw [if_pos (by omega), if_pos (by omega), wrapS (x := j + 1) (by omega) (by omega)]
  unfold spec_l1Bytes.f
  exact key n.toNat [] 0 i h (by omega) (by omega) rfl (fun x hx => by simp at hx) hi

theorem DrawEncrypt_ex (l : List Int) (hl : l.length ≤ 1048576) : ∃ (key : Int) (b : List Int), Ev (fun k => spec_DrawEncrypt.f k l) (key, b) ∧ (∀ x ∈ b, 0 ≤ x ∧ x ≤ 255) ∧ b.length ≤ 8 ∧ (-1 ≤ key ∧ key ≤ 2147483648) := by
  obtain ⟨h, hn⟩ := l1New_ex l hl
  obtain ⟨key, i1, h1, e1, b1, g1⟩ := l3Word_ex l 0 h (by omega) hl
  obtain ⟨n, i2, h2, e2, _, b2, g2⟩ := l1Below_ex l i1 h1 8 g1 hl
  have b2 := b2 (by omega)
  obtain ⟨o, i3, h3, hE, hx, hlen, _⟩ := l1Bytes_ex l i2 h2 n g2 hl (by omega)
  refine ⟨key, o, ?_, hx, by omega, b1⟩
  unfold spec_DrawEncrypt.f
  refine Ev.bind hn ?_
  simp only [e1, e2, Option.bind_some]
  exact Ev.bind hE (Ev.now _)

/-- The stream's byte at a place, added or taken away. -/
def shOne (key s i c : Int) : Int := (c + s * (khash key [i] % 256)) % 256
def shf (key s : Int) : Int → List Int → List Int
  | _, [] => []
  | i, c :: l => shOne key s i c :: shf key s (i + 1) l
theorem shf_length (key s : Int) (l : List Int) : ∀ i, (shf key s i l).length = l.length := by
  induction l with
  | nil => intro i; rfl
  | cons c l ih => intro i; simp [shf, ih]
theorem shf_byte (key s : Int) (l : List Int) : ∀ i, ∀ x ∈ shf key s i l, 0 ≤ x ∧ x ≤ 255 := by
  induction l with
  | nil => intro i x hx; simp [shf] at hx
  | cons c l ih =>
    intro i x hx
    simp only [shf, List.mem_cons] at hx
    rcases hx with h | h
    · rw [h]; unfold shOne; omega
    · exact ih _ x h
theorem rd_mem (l : List Int) (i : Int) (h0 : 0 ≤ i) (h1 : i < l.length) : rd l i ∈ l := by
  simp only [rd, List.getD_eq_getElem?_getD, List.getElem?_eq_getElem (show i.toNat < l.length by omega), Option.getD_some]
  exact List.getElem_mem _

theorem impl_InRange_is (a b c : Int) : impl_InRange.f a b c = some (decide (b ≤ a ∧ a ≤ c)) := by
  unfold impl_InRange.f
  by_cases h : b ≤ a <;> simp [h]

theorem mod_is (p q : Int) (h1 : 1 ≤ q) (h2 : q ≤ 1000000000000) : Int.tmod (wrap64 ((Int.tmod p q) + q)) q = p % q := by
  have e := Int.tmod_def p q
  have l1 := Int.lt_tmod_of_pos p (show 0 < q by omega)
  have l2 := Int.tmod_lt_of_pos p (show 0 < q by omega)
  rw [wrapS (by omega) (by omega), Int.tmod_eq_emod_of_nonneg (by omega), Int.add_emod_right, e, Int.sub_mul_emod_self_left]

theorem impl_Mod_is (p q : Int) (h1 : 1 ≤ q) (h2 : q ≤ 1000000000000) : impl_Mod.f p q = some (p % q) := by
  unfold impl_Mod.f
  simp only [impl_InRange_is, h1, h2, and_self, decide_true, Option.bind_some, if_true]
  rw [if_neg (by omega), mod_is p q h1 h2]

theorem impl_Hash_ev (l : List Int) (hl : l.length ≤ 70368744177664) : Ev (fun k => impl_Hash.f k l) (hashOf l) := by
  have key : ∀ (n : Nat) (d i : Int), 0 ≤ i → i + n = l.length → 0 ≤ d → d < 2147483647 → Ev (fun k => impl_Hash.l0 k d l (l.length : Int) i) (hgo d (l.drop i.toNat)) := by
    intro n
    induction n with
    | zero =>
      intro d i h0 hi hd hd2
      refine Ev.step (f := fun _ => some d) (fun k => ?_) ?_
      · simp only [impl_Hash.l0]
        rw [if_neg (by omega)]
      · rw [List.drop_eq_nil_of_le (by omega)]
        exact Ev.now _
    | succ n ih =>
      intro d i h0 hi hd hd2
      rw [drop_rd l i h0 (by omega)]
      refine Ev.step (f := fun k => impl_Hash.l0 k ((d * 1000003 + (rd l i) % 2147483647 + 13) % 2147483647) l (l.length : Int) (i + 1)) (fun k => ?_) (ih _ _ (by omega) (by omega) (by omega) (by omega))
      simp only [impl_Hash.l0]
      rw [if_pos (by omega), if_pos h0, if_pos (by omega), impl_Mod_is _ _ (by omega) (by omega)]
      simp only [Option.bind_some]
      rw [hash_round d _ hd hd2, wrapS (by omega) (by omega)]
  exact key l.length 11 0 (by omega) (by omega) (by omega) (by omega)

theorem impl_KeyedHash_ev (a : Int) (l : List Int) (hl : l.length ≤ 4194304) : Ev (fun k => impl_KeyedHash.f k a l) (khash a l) := by
  unfold impl_KeyedHash.f
  simp only [Option.bind_some]
  simp only [if_pos (show [a].length + l.length < 17592186044416 from by simp; omega), if_pos (show ([a] ++ l).length < 17592186044416 from by simp; omega)]
  refine Ev.bind (impl_Hash_ev _ (by simp; omega)) ?_
  exact Ev.now _

theorem impl_shifted_ev (key s : Int) (l : List Int) (hs : s = 1 ∨ s = -1) (hl : l.length ≤ 8388608) (hb : ∀ x ∈ l, 0 ≤ x ∧ x ≤ 255) : Ev (fun k => impl_shifted.f k key l s) (shf key s 0 l) := by
  have key0 : ∀ (n : Nat) (o : List Int) (i : Int), 0 ≤ i → i + n = l.length → o.length = i.toNat → Ev (fun k => impl_shifted.l0 k key s o l (l.length : Int) i) (o ++ shf key s i (l.drop i.toNat)) := by
    intro n
    induction n with
    | zero =>
      intro o i h0 hi ho
      rw [List.drop_eq_nil_of_le (by omega), shf, List.append_nil]
      refine Ev.step (f := fun _ => some o) (fun k => ?_) (Ev.now _)
      simp only [impl_shifted.l0]
      rw [if_neg (by omega)]
    | succ n ih =>
      intro o i h0 hi ho
      have hx := hb _ (rd_mem l i h0 (by omega))
      have hk := khash_range key [i]
      have hi2 := ih (o ++ [shOne key s i (rd l i)]) (i + 1) (by omega) (by omega) (by simp; omega)
      rw [List.append_assoc, List.singleton_append] at hi2
      rw [drop_rd l i h0 (by omega), shf]
      refine Ev.step (f := fun k => (impl_KeyedHash.f k key [i]).bind fun t => (if o.length < 140737488355328 then (impl_shifted.l0 k key s (o ++ [(wrap64 ((wrap64 (rd l i)) + (wrap64 (s * (Int.tmod t 256))))) % 256]) l (l.length : Int) (i + 1)) else none)) (fun k => ?_) (Ev.bind (impl_KeyedHash_ev key [i] (by simp)) ?_)
      · simp only [impl_shifted.l0]
        rw [if_pos (by omega), if_pos h0, if_pos (by omega), wrapS (x := i + 1) (by omega) (by omega)]
      · have e : (wrap64 ((wrap64 (rd l i)) + (wrap64 (s * (Int.tmod (khash key [i]) 256))))) % 256 = shOne key s i (rd l i) := by
          unfold shOne
          rw [Int.tmod_eq_emod_of_nonneg hk.1]
          rcases hs with rfl | rfl
          · rw [wrapS (x := rd l i) (by omega) (by omega), wrapS (x := 1 * (khash key [i] % 256)) (by omega) (by omega), wrapS (by omega) (by omega)]
          · rw [wrapS (x := rd l i) (by omega) (by omega), wrapS (x := -1 * (khash key [i] % 256)) (by omega) (by omega), wrapS (by omega) (by omega)]
        simp only [if_pos (show o.length < 140737488355328 from by omega), e]
        exact hi2
  exact key0 l.length [] 0 (by omega) (by omega) (by simp)

theorem impl_Encrypt_ev (key : Int) (l : List Int) (hl : l.length ≤ 8388608) (hb : ∀ x ∈ l, 0 ≤ x ∧ x ≤ 255) : Ev (fun k => impl_Encrypt.f k key l) (shf key 1 0 l) := by
  unfold impl_Encrypt.f
  exact Ev.bind (impl_shifted_ev key 1 l (Or.inl rfl) hl hb) (Ev.now _)

theorem impl_Decrypt_ev (key : Int) (l : List Int) (hl : l.length ≤ 8388608) (hb : ∀ x ∈ l, 0 ≤ x ∧ x ≤ 255) : Ev (fun k => impl_Decrypt.f k key l) (shf key (-1) 0 l) := by
  unfold impl_Decrypt.f
  exact Ev.bind (impl_shifted_ev key (-1) l (Or.inr rfl) hl hb) (Ev.now _)

theorem laws_sameBytes_ev (l : List Int) (hl : l.length ≤ 17592186044416) : Ev (fun k => laws_sameBytes.f k l l) true := by
  have key : ∀ (d : Nat) (i : Int), 0 ≤ i → i + d = l.length → Ev (fun k => laws_sameBytes.l0 k l l i) true := by
    intro d
    induction d with
    | zero =>
      intro i h0 hi
      refine Ev.step (f := fun _ => some true) (fun k => ?_) (Ev.now _)
      simp only [laws_sameBytes.l0]
      rw [if_neg (by omega)]
    | succ d ih =>
      intro i h0 hi
      refine Ev.step (f := fun k => laws_sameBytes.l0 k l l (i + 1)) (fun k => ?_) (ih _ (by omega) (by omega))
      simp only [laws_sameBytes.l0]
      rw [if_pos (by omega), if_pos h0, if_pos (by omega), wrapS (by omega) (by omega)]
      simp
  refine Ev.congr (f := fun k => laws_sameBytes.l0 k l l 0) (fun k => ?_) (key l.length 0 (by omega) (by omega))
  unfold laws_sameBytes.f
  rw [if_pos rfl]

theorem shf_back (key s t : Int) (hst : s = -t) (l : List Int) : ∀ i, (∀ x ∈ l, 0 ≤ x ∧ x ≤ 255) → shf key t i (shf key s i l) = l := by
  induction l with
  | nil => intro i _; rfl
  | cons c l ih =>
    intro i hb
    have hc := hb c (by simp)
    simp only [shf]
    rw [ih (i + 1) (fun x hx => hb x (by simp [hx]))]
    congr 1
    unfold shOne
    subst hst
    generalize khash key [i] % 256 = q
    rw [Int.neg_mul]
    generalize t * q = p
    omega
theorem FnCipher : laws_FnCipher.Pure := by
  intro l _ _ _
  apply Ev.rounds
  unfold laws_FnCipher.f laws_big.f
  simp only [Option.bind_some]
  by_cases h1 : (l.length : Int) > 1048576
  · simp only [decide_eq_true h1, if_true]; exact Ev.now _
  simp only [decide_eq_false h1, Bool.false_eq_true, if_false]
  obtain ⟨key, b, hE, hb, hlen, _⟩ := DrawEncrypt_ex l (by omega)
  have l1 := shf_length key 1 b 0
  have l2 := shf_length key (-1) b 0
  have y1 := shf_byte key 1 b 0
  have y2 := shf_byte key (-1) b 0
  have z1 := shf_back key 1 (-1) (by omega) b 0 hb
  have z2 := shf_back key (-1) 1 (by omega) b 0 hb
  refine Ev.bind (hE) ?_
  refine Ev.bind (impl_Encrypt_ev key b (by omega) hb) ?_
  refine Ev.bind (impl_Decrypt_ev key (shf key 1 0 b) (by omega) y1) ?_
  rw [z1]
  refine Ev.bind (laws_sameBytes_ev b (by omega)) ?_
  simp only [if_true, if_false, Bool.false_eq_true, Bool.not_true, Bool.not_false, bne_self_eq_false, eq_self, ite_true, ite_false, reduceIte]
  refine Ev.bind (impl_Decrypt_ev key b (by omega) hb) ?_
  refine Ev.bind (impl_Encrypt_ev key (shf key (-1) 0 b) (by omega) y2) ?_
  rw [z2]
  refine Ev.bind (laws_sameBytes_ev b (by omega)) ?_
  simp only [if_true, if_false, Bool.false_eq_true, Bool.not_true, Bool.not_false, bne_self_eq_false, eq_self, ite_true, ite_false, reduceIte]
  refine Ev.bind (impl_Encrypt_ev key b (by omega) hb) ?_
  rw [l1]
  simp only [beq_self_eq_true]
  exact Ev.now _

end Go.Proofs.Ytcdiajjadgbngaa.Pure
