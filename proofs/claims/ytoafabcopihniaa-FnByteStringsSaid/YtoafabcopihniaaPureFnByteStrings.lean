/- FnByteStrings answers true, for each list of bytes. -/
import Derived.Test.YtoafabcopihniaaQFnByteStringsx3
import Derived.Test.YtoafabcopihniaaWSized
set_option linter.unusedVariables false
set_option linter.unusedSimpArgs false
namespace Go.Proofs.Ytoafabcopihniaa.PrintWords
open Go.ChangeShapes Go.WideShapes
/-- The printed row names the word so; it lies one namespace beside. -/
theorem sized_ints {H : Type} {enc : TypeId × Value → H} {P : Program} {W : World} {base : Nat} {spare : Nat → Bool} {held : Bool} {t e : TypeId} {k : IntKind} {a : Option Addr} {len cap : Nat} {d : DataW H} {ps : List MemPlace} {ts : List TypeId} {ds : List (DataW H)} {j : Nat}
    (hsz : (DataW.weightsEach P ts ds).all (· ≤ reachBytes) = true) (ht : ts[j]? = some t) (hd : ds[j]? = some d) (hu : P.underlying t = some (.slice e)) (he : P.underlying e = some (.int k)) (hc : P.cellsOf e = 1) {B : Nat} (hB : P.bytesOf e = B)
    (h : DataW.Trod enc P W base spare held t (.slice a len cap) d ps) : len * B ≤ 140737488351232 :=
  Go.Proofs.YtoafabcopihniaaW.PrintWords.sized_ints hsz ht hd hu he hc hB h
end Go.Proofs.Ytoafabcopihniaa.PrintWords
namespace Go.Proofs.Ytoafabcopihniaa.Pure
open Go.RowKit Go.Proofs.Ytoafabcopihniaa.QFnByteStrings Go.Proofs.YtoafabcopihniaaW.PrintWords Go.Proofs.YtoafabcopihniaaW.PrintLast Go.Proofs.YtoafabcopihniaaW.PrintMore

theorem wrapS {x : Int} (h1 : -9223372036854775808 ≤ x) (h2 : x ≤ 9223372036854775807) : wrap64 x = x := by
  unfold wrap64
  omega
theorem i64wf {x : Int} (h : (Lit.int .i64 x).wf = true) : -9223372036854775808 ≤ x ∧ x ≤ 9223372036854775807 := by
  have h1 : (decide (IntKind.i64.min ≤ x) && decide (x ≤ IntKind.i64.max)) = true := h
  rw [Bool.and_eq_true, decide_eq_true_eq, decide_eq_true_eq] at h1
  exact h1
theorem u8wf {x : Int} (h : (Lit.int .u8 x).wf = true) : 0 ≤ x ∧ x ≤ 255 := by
  have h1 : (decide (IntKind.u8.min ≤ x) && decide (x ≤ IntKind.u8.max)) = true := h
  rw [Bool.and_eq_true, decide_eq_true_eq, decide_eq_true_eq] at h1
  exact h1
/-- What is told of some number of rounds is told of any three together. -/
theorem evNow {α : Type} {g : Option α} {r : α} (h : g = some r) : Ev (fun _ => g) r := ⟨0, fun _ _ => h⟩
theorem one_add_neg (n : Nat) : ((1 : Int) + (n : Int) < 0) = False := by
  simp only [eq_iff_iff, iff_false]
  omega

theorem set_take_succ {α : Type} (d : α) (o l : List α) (n : Nat) (ho : o.length = l.length) (hn : n < l.length) (ht : o.take n = l.take n) : (o.set n (l.getD n d)).take (n + 1) = l.take (n + 1) := by
  apply List.ext_getElem?
  intro j
  have hj := congrArg (fun t => t[j]?) ht
  simp only [List.getElem?_take] at hj ⊢
  by_cases h1 : j < n
  · rw [if_pos h1, if_pos h1] at hj
    rw [if_pos (by omega), if_pos (by omega), List.getElem?_set_ne (by omega)]
    exact hj
  · by_cases h2 : j = n
    · subst h2
      rw [if_pos (by omega), if_pos (by omega), List.getElem?_set_self (by omega), List.getElem?_eq_getElem hn, List.getD_eq_getElem?_getD, List.getElem?_eq_getElem hn]
      rfl
    · rw [if_neg (by omega), if_neg (by omega)]
theorem take_all {α : Type} {o l : List α} (n : Nat) (ho : o.length = l.length) (hn : l.length ≤ n) (ht : o.take n = l.take n) : o = l := by
  rw [List.take_of_length_le (by omega), List.take_of_length_le (by omega)] at ht
  exact ht

def hgo (d : Int) (l : List Int) : Int := l.foldl (fun d v => (d * 1000003 + v % 2147483647 + 13) % 2147483647) d
def hashOf (l : List Int) : Int := hgo 11 l
def khash (a : Int) (l : List Int) : Int := hashOf ([a] ++ l ++ [a])
theorem hgo_range (l : List Int) : ∀ d, 0 ≤ d → d < 2147483647 → 0 ≤ hgo d l ∧ hgo d l < 2147483647 := by
  induction l with
  | nil => intro d h1 h2; exact ⟨h1, h2⟩
  | cons v l ih => intro d h1 h2; exact ih ((d * 1000003 + v % 2147483647 + 13) % 2147483647) (by omega) (by omega)
theorem khash_range (a : Int) (l : List Int) : 0 ≤ khash a l ∧ khash a l < 2147483647 := hgo_range _ 11 (by omega) (by omega)
theorem drop_rd (l : List Int) (i : Int) (h0 : 0 ≤ i) (h1 : i < l.length) : l.drop i.toNat = rd l i :: l.drop (i + 1).toNat := by
  rw [show (i + 1).toNat = i.toNat + 1 from by omega, List.drop_eq_getElem_cons (by omega)]
  congr 1
  simp [rd, List.getD_eq_getElem?_getD, List.getElem?_eq_getElem (show i.toNat < l.length by omega)]
theorem hash_round (d v : Int) (h1 : 0 ≤ d) (h2 : d < 2147483647) : Int.tmod (wrap64 ((wrap64 ((wrap64 (d * 1000003)) + v % 2147483647)) + 13)) 2147483647 = (d * 1000003 + v % 2147483647 + 13) % 2147483647 := by
  rw [wrapS (x := d * 1000003) (by omega) (by omega), wrapS (x := d * 1000003 + v % 2147483647) (by omega) (by omega), wrapS (by omega) (by omega), Int.tmod_eq_emod_of_nonneg (by omega)]

theorem l1New_ex (l : List Int) (hl : l.length ≤ 1048576) : ∃ h, Ev (fun k => spec_l1New.f k l) (l, 0, h) := by
  have key : ∀ (d : Nat) (x i : Int), 0 ≤ i → i + d = l.length → ∃ h, Ev (fun k => spec_l1New.l0 k l x i) (l, 0, h) := by
    intro d
    induction d with
    | zero =>
      intro x i h0 hi
      refine ⟨x, Ev.step (f := fun _ => some (l, 0, x)) (fun k => ?_) (Ev.now _)⟩
      simp only [spec_l1New.l0]
      rw [if_neg (by omega)]
    | succ d ih =>
      intro x i h0 hi
      by_cases c : i < 4000
      · obtain ⟨h, hh⟩ := ih (Go.bits .and .i64 (wrap64 ((wrap64 ((wrap64 (x * 137)) + (wrap64 (rd l i)))) + 11)) 1073741823) (i + 1) (by omega) (by omega)
        refine ⟨h, Ev.step (fun k => ?_) hh⟩
        simp only [spec_l1New.l0]
        rw [if_pos (by omega), if_pos c, if_pos h0, wrapS (x := i + 1) (by omega) (by omega)]
      · refine ⟨x, Ev.step (f := fun _ => some (l, 0, x)) (fun k => ?_) (Ev.now _)⟩
        simp only [spec_l1New.l0]
        rw [if_pos (by omega), if_neg c]
  unfold spec_l1New.f
  exact key l.length _ 0 (by omega) (by omega)

theorem and255 (y : Int) : 0 ≤ Go.bits .and .i64 y 255 ∧ Go.bits .and .i64 y 255 ≤ 255 := by
  simp only [Go.bits, BitVec.toNat_and]
  have h : (BitVec.ofInt IntKind.i64.bits y).toNat &&& (BitVec.ofInt IntKind.i64.bits 255).toNat ≤ 255 := by
    have e : (BitVec.ofInt IntKind.i64.bits 255).toNat = 255 := by decide
    rw [e]
    exact Nat.and_le_right
  rw [IntKind.wrap_i64]
  omega
theorem l1Byte_ex (b : List Int) (i h : Int) (hi : 0 ≤ i) (hb : b.length ≤ 1048576) : ∃ x i' h', spec_l1Byte.f b i h = some (x, i', h') ∧ (0 ≤ x ∧ x ≤ 255) ∧ 0 ≤ i' := by
  unfold spec_l1Byte.f
  by_cases c : i < (b.length : Int)
  · rw [if_pos c, if_pos hi]
    exact ⟨_, _, _, rfl, and255 _, by rw [wrapS (by omega) (by omega)]; omega⟩
  · rw [if_neg c]
    exact ⟨_, _, _, rfl, and255 _, hi⟩

theorem l1Below_ex (b : List Int) (i h n : Int) (hi : 0 ≤ i) (hb : b.length ≤ 1048576) : ∃ x i' h', spec_l1Below.f b i h n = some (x, i', h') ∧ (n ≤ 0 → x = 0) ∧ (0 < n → 0 ≤ x ∧ x < n) ∧ 0 ≤ i' := by
  unfold spec_l1Below.f
  by_cases c : n ≤ 0
  · rw [if_pos c]
    exact ⟨_, _, _, rfl, fun _ => rfl, fun h => by omega, hi⟩
  · rw [if_neg c]
    have fin : ∀ v : Int, 0 ≤ v → 0 ≤ Int.tmod v n ∧ Int.tmod v n < n := by
      intro v hv
      rw [Int.tmod_eq_emod_of_nonneg hv]
      exact ⟨Int.emod_nonneg _ (by omega), Int.emod_lt_of_pos _ (by omega)⟩
    obtain ⟨x, i1, h1, e1, b1, g1⟩ := l1Byte_ex b i h hi hb
    by_cases c2 : n ≤ 256
    · rw [if_pos c2, e1]
      simp only [Option.bind_some]
      rw [if_neg (by omega)]
      exact ⟨_, _, _, rfl, fun h => absurd h c, fun _ => fin x b1.1, g1⟩
    · rw [if_neg c2, e1]
      obtain ⟨y, i2, h2, e2, b2, g2⟩ := l1Byte_ex b i1 h1 g1 hb
      obtain ⟨z, i3, h3, e3, b3, g3⟩ := l1Byte_ex b i2 h2 g2 hb
      simp only [Option.bind_some, e2, e3]
      rw [if_neg (by omega)]
      refine ⟨_, _, _, rfl, fun h => absurd h c, fun _ => fin _ ?_, g3⟩
      rw [wrapS (x := x * 65536) (by omega) (by omega), wrapS (x := y * 256) (by omega) (by omega), wrapS (x := x * 65536 + y * 256) (by omega) (by omega), wrapS (by omega) (by omega)]
      omega

theorem l1Bytes_ex (b : List Int) (i h n : Int) (hi : 0 ≤ i) (hb : b.length ≤ 1048576) (hn : n ≤ 1000000) : ∃ (o : List Int) (i' h' : Int), Ev (fun k => spec_l1Bytes.f k b i h n) (o, i', h') ∧ (∀ x ∈ o, 0 ≤ x ∧ x ≤ 255) ∧ o.length = n.toNat ∧ 0 ≤ i' := by
  have key : ∀ (d : Nat) (o : List Int) (j i h : Int), 0 ≤ j → j + d = n.toNat → o.length = j.toNat → (∀ x ∈ o, 0 ≤ x ∧ x ≤ 255) → 0 ≤ i → ∃ (o' : List Int) (i' h' : Int), Ev (fun k => spec_l1Bytes.l0 k n o j b i h) (o', i', h') ∧ (∀ x ∈ o', 0 ≤ x ∧ x ≤ 255) ∧ o'.length = n.toNat ∧ 0 ≤ i' := by
    intro d
    induction d with
    | zero =>
      intro o j i h h0 hj ho hx hi
      refine ⟨o, i, h, Ev.step (f := fun _ => some (o, i, h)) (fun k => ?_) (Ev.now _), hx, by omega, hi⟩
      simp only [spec_l1Bytes.l0]
      rw [if_neg (by omega)]
    | succ d ih =>
      intro o j i h h0 hj ho hx hi
      obtain ⟨x, i1, h1, e1, b1, g1⟩ := l1Byte_ex b i h hi hb
      obtain ⟨o', i', h', hE, hx', hl', hi'⟩ := ih (o ++ [x % 256]) (j + 1) i1 h1 (by omega) (by omega) (by simp; omega) (by
        intro y hy
        rcases List.mem_append.1 hy with h | h
        · exact hx y h
        · simp at h; omega) g1
      refine ⟨o', i', h', Ev.step (fun k => ?_) hE, hx', hl', hi'⟩
      simp only [spec_l1Bytes.l0, e1, Option.bind_some]
      rw [if_pos (by omega), if_pos (by omega), wrapS (x := j + 1) (by omega) (by omega)]
  unfold spec_l1Bytes.f
  exact key n.toNat [] 0 i h (by omega) (by omega) rfl (fun x hx => by simp at hx) hi

theorem and127 (x : Int) (h0 : 0 ≤ x) (h1 : x < 4611686018427387904) : Go.bits .and .i64 x 127 = x % 128 := by
  have h := bits_mask .i64 62 (by decide) (fun n h0 h1 => by rw [IntKind.wrap_i64]; omega) 7 (by decide) x h0 (by omega)
  simpa using h

theorem or128 (x : Int) (h0 : 0 ≤ x) (h1 : x < 128) : Go.bits .or .i64 x 128 = x + 128 := by
  obtain ⟨a, rfl⟩ := Int.eq_ofNat_of_zero_le h0
  have h := (bits_nat .i64 62 (by decide) (fun n h0 h1 => by rw [IntKind.wrap_i64]; omega) a 128 (by omega) (by decide)).2
  have e : a ||| 128 = 128 + a := by
    have := Nat.two_pow_add_eq_or_of_lt (i := 7) (b := a) (by omega) 1
    rw [Nat.or_comm]
    simpa using this.symm
  rw [e] at h
  rw [show ((128 : Int)) = ((128 : Nat) : Int) from rfl, h]
  omega
/-- The bytes of a varint, with as many rounds as are given at most. -/
def uvE : Nat → Int → List Int
  | 0, n => [n % 256]
  | d + 1, n => if n < 128 then [n] else (n % 128 + 128) :: uvE d (n / 128)
def uv (n : Int) : List Int := uvE 6 n
theorem uvE_length (d : Nat) : ∀ n, (uvE d n).length ≤ d + 1 := by
  induction d with
  | zero => intro n; simp [uvE]
  | succ d ih =>
    intro n
    unfold uvE
    split
    · simp
    · have := ih (n / 128)
      simp only [List.length_cons]
      omega
theorem uv_length (n : Int) : (uv n).length ≤ 7 := uvE_length 6 n
theorem uvE_byte (d : Nat) : ∀ n, 0 ≤ n → ∀ x ∈ uvE d n, 0 ≤ x ∧ x ≤ 255 := by
  induction d with
  | zero => intro n h x hx; simp [uvE] at hx; omega
  | succ d ih =>
    intro n h x hx
    unfold uvE at hx
    split at hx
    · simp at hx; omega
    · rcases List.mem_cons.1 hx with h1 | h1
      · omega
      · exact ih (n / 128) (by omega) x h1
def appU (b : List Int) (n : Int) : List Int := if 0 ≤ n ∧ n ≤ 1000000000000 then b ++ uv n else b
theorem appU_length (b : List Int) (n : Int) : (appU b n).length ≤ b.length + 7 := by
  unfold appU
  have := uv_length n
  split
  · rw [List.length_append]; omega
  · omega

def appB (a b : List Int) : List Int := appU a (b.length : Int) ++ b
theorem appB_length (a b : List Int) : (appB a b).length ≤ a.length + b.length + 7 := by
  unfold appB
  have := appU_length a (b.length : Int)
  rw [List.length_append]
  omega

theorem impl_InRange_is (a b c : Int) : impl_InRange.f a b c = some (decide (b ≤ a ∧ a ≤ c)) := by
  unfold impl_InRange.f
  by_cases h : b ≤ a <;> simp [h]

theorem impl_uv_loop (d : Nat) : ∀ (n : Int) (o : List Int), 0 ≤ n → n < 128 ^ (d + 1) → n ≤ 1000000000000 → o.length + d + 1 < 140737488355328 → Ev (fun k => impl_AppendUvarint.l0 k n o) (o ++ uvE d n) := by
  induction d with
  | zero =>
    intro n o h0 h1 hm hl
    have h1' : n < 128 := by simpa using h1
    refine Ev.step (f := fun _ => some (o ++ uvE 0 n)) (fun k => ?_) (Ev.now _)
    simp only [impl_AppendUvarint.l0, uvE]
    rw [if_neg (by omega), if_pos (by omega)]
  | succ d ih =>
    intro n o h0 h1 hm hl
    unfold uvE
    by_cases h : n < 128
    · rw [if_pos h]
      refine Ev.step (f := fun _ => some (o ++ [n])) (fun k => ?_) (Ev.now _)
      simp only [impl_AppendUvarint.l0]
      rw [if_neg (by omega), if_pos (by omega), show n % 256 = n from by omega]
    · rw [if_neg h]
      have h2 : n / 128 < 128 ^ (d + 1) := by
        rw [Int.pow_succ] at h1
        omega
      have hi := ih (n / 128) (o ++ [n % 128 + 128]) (by omega) h2 (by omega) (by simp only [List.length_append, List.length_cons, List.length_nil]; omega)
      rw [List.append_assoc] at hi
      refine Ev.step (f := fun k => impl_AppendUvarint.l0 k (n / 128) (o ++ [n % 128 + 128])) (fun k => ?_) hi
      simp only [impl_AppendUvarint.l0]
      rw [if_pos (by omega), if_pos (by omega), Int.tdiv_eq_ediv_of_nonneg h0, Int.tmod_eq_emod_of_nonneg h0, wrapS (by omega) (by omega), wrapS (by omega) (by omega), show (n % 128 + 128) % 256 = n % 128 + 128 from by omega]
theorem impl_AppendUvarint_ev (b : List Int) (n : Int) (hl : b.length ≤ 70368744177664) : Ev (fun k => impl_AppendUvarint.f k b n) (appU b n) := by
  unfold impl_AppendUvarint.f appU uv
  simp only [Option.bind_some, List.nil_append, List.length_nil, impl_InRange_is]
  by_cases h : 0 ≤ n ∧ n ≤ 1000000000000
  · simp only [h, decide_true, if_true, and_self]
    simp only [if_pos (show 0 + b.length < 140737488355328 from by omega)]
    exact impl_uv_loop 6 n b h.1 (by simp; omega) h.2 (by omega)
  · simp only [h, decide_false, Bool.false_eq_true, if_false]
    simp only [if_pos (show 0 + b.length < 140737488355328 from by omega)]
    exact Ev.now _

theorem impl_AppendBytes_ev (a b : List Int) (ha : a.length ≤ 8388608) (hb : b.length ≤ 8388608) : Ev (fun k => impl_AppendBytes.f k a b) (appB a b) := by
  unfold impl_AppendBytes.f
  have h := appU_length a (b.length : Int)
  refine Ev.bind (impl_AppendUvarint_ev a _ (by omega)) ?_
  simp only [if_pos (show (appU a (b.length : Int)).length + b.length < 140737488355328 from by omega)]
  exact Ev.now _

theorem shl7 (kk : Nat) (hk : kk ≤ 5) (y : Int) (h0 : 0 ≤ y) (h1 : y < 128) : shl .i64 y (7 * (kk : Int)) = y * 128 ^ kk := by
  have h : kk = 0 ∨ kk = 1 ∨ kk = 2 ∨ kk = 3 ∨ kk = 4 ∨ kk = 5 := by omega
  unfold shl
  rw [IntKind.wrap_i64]
  rcases h with rfl | rfl | rfl | rfl | rfl | rfl <;> simp [IntKind.bits] <;> omega
theorem bor_comm (a b : Int) : Go.bits .or .i64 a b = Go.bits .or .i64 b a := by
  simp only [Go.bits, BitVec.or_comm]
theorem or7 (kk : Nat) (hk : kk ≤ 5) (n y : Int) (hn0 : 0 ≤ n) (hn : n < 128 ^ kk) (h0 : 0 ≤ y) (h1 : y < 128) : Go.bits .or .i64 n (y * 128 ^ kk) = n + y * 128 ^ kk := by
  have h : kk = 0 ∨ kk = 1 ∨ kk = 2 ∨ kk = 3 ∨ kk = 4 ∨ kk = 5 := by omega
  have W : ∀ n : Int, 0 ≤ n → n < 2 ^ 62 → IntKind.i64.wrap n = n := fun n h0 h1 => by rw [IntKind.wrap_i64]; omega
  rw [bor_comm]
  rcases h with rfl | rfl | rfl | rfl | rfl | rfl
  · have := bits_join .i64 62 (by decide) W 0 (y * 128 ^ 0) n (by omega) (by omega) (by omega) hn0 (by omega) (by omega); rw [this]; omega
  · have := bits_join .i64 62 (by decide) W 7 (y * 128 ^ 1) n (by omega) (by omega) (by omega) hn0 (by omega) (by omega); rw [this]; omega
  · have := bits_join .i64 62 (by decide) W 14 (y * 128 ^ 2) n (by omega) (by omega) (by omega) hn0 (by omega) (by omega); rw [this]; omega
  · have := bits_join .i64 62 (by decide) W 21 (y * 128 ^ 3) n (by omega) (by omega) (by omega) hn0 (by omega) (by omega); rw [this]; omega
  · have := bits_join .i64 62 (by decide) W 28 (y * 128 ^ 4) n (by omega) (by omega) (by omega) hn0 (by omega) (by omega); rw [this]; omega
  · have := bits_join .i64 62 (by decide) W 35 (y * 128 ^ 5) n (by omega) (by omega) (by omega) hn0 (by omega) (by omega); rw [this]; omega
theorem pow7 (kk : Nat) (hk : kk ≤ 5) (n y : Int) (hn0 : 0 ≤ n) (hn : n < 128 ^ kk) (h0 : 0 ≤ y) (h1 : y < 128) : 0 ≤ n + y * 128 ^ kk ∧ n + y * 128 ^ kk < 128 ^ (kk + 1) ∧ n + y * 128 ^ kk < 4611686018427387904 := by
  have h : kk = 0 ∨ kk = 1 ∨ kk = 2 ∨ kk = 3 ∨ kk = 4 ∨ kk = 5 := by omega
  rcases h with rfl | rfl | rfl | rfl | rfl | rfl <;> omega
/-- A varint is read: d rounds are left, kk bytes are read, n is read so far. -/
def rdUgo (l : List Int) (a : Int) : Nat → Nat → Int → Int × Int × Bool
  | 0, _, _ => (0, 0, false)
  | d + 1, kk, n =>
    if 0 ≤ a ∧ a + kk < l.length then
      if rd l (a + kk) < 128 then
        if (0 < kk ∧ rd l (a + kk) = 0) ∨ n + rd l (a + kk) % 128 * 128 ^ kk > 1000000000000 then (0, 0, false)
        else (n + rd l (a + kk) % 128 * 128 ^ kk, a + kk + 1, true)
      else rdUgo l a d (kk + 1) (n + rd l (a + kk) % 128 * 128 ^ kk)
    else (0, 0, false)
def rdU (l : List Int) (a : Int) : Int × Int × Bool := rdUgo l a 6 0 0
/-- What is read is a number of its kind, and its end lies in the bytes. -/
theorem rdUgo_good (l : List Int) (a : Int) (d : Nat) : ∀ kk n, 0 ≤ n → kk + d = 6 → n < 128 ^ kk → ((rdUgo l a d kk n).2.2 = false ∧ (rdUgo l a d kk n).1 = 0 ∧ (rdUgo l a d kk n).2.1 = 0) ∨ ((rdUgo l a d kk n).2.2 = true ∧ 0 ≤ (rdUgo l a d kk n).1 ∧ (rdUgo l a d kk n).1 ≤ 1000000000000 ∧ 0 ≤ a ∧ a + kk < (rdUgo l a d kk n).2.1 ∧ (rdUgo l a d kk n).2.1 ≤ l.length) := by
  induction d with
  | zero => intro kk n h0 hk hn; exact Or.inl ⟨rfl, rfl, rfl⟩
  | succ d ih =>
    intro kk n h0 hk hn
    have hp := pow7 kk (by omega) n (rd l (a + kk) % 128) h0 hn (by omega) (by omega)
    unfold rdUgo
    by_cases h : 0 ≤ a ∧ a + kk < l.length
    · rw [if_pos h]
      by_cases h2 : rd l (a + kk) < 128
      · rw [if_pos h2]
        by_cases h3 : (0 < kk ∧ rd l (a + kk) = 0) ∨ n + rd l (a + kk) % 128 * 128 ^ kk > 1000000000000
        · rw [if_pos h3]
          exact Or.inl ⟨rfl, rfl, rfl⟩
        · rw [if_neg h3]
          refine Or.inr ⟨rfl, hp.1, ?_, h.1, ?_, ?_⟩
          · show n + rd l (a + kk) % 128 * 128 ^ kk ≤ 1000000000000
            have : ¬ (n + rd l (a + kk) % 128 * 128 ^ kk > 1000000000000) := fun h => h3 (Or.inr h)
            omega
          · show a + kk < a + kk + 1
            omega
          · show a + kk + 1 ≤ l.length
            omega
      · rw [if_neg h2]
        rcases ih (kk + 1) (n + rd l (a + kk) % 128 * 128 ^ kk) hp.1 (by omega) hp.2.1 with h | h
        · exact Or.inl h
        · refine Or.inr ⟨h.1, h.2.1, h.2.2.1, h.2.2.2.1, ?_, h.2.2.2.2.2⟩
          have := h.2.2.2.2.1
          omega
    · rw [if_neg h]
      exact Or.inl ⟨rfl, rfl, rfl⟩
theorem rdU_good (l : List Int) (a : Int) : ((rdU l a).2.2 = false ∧ (rdU l a).1 = 0 ∧ (rdU l a).2.1 = 0) ∨ ((rdU l a).2.2 = true ∧ 0 ≤ (rdU l a).1 ∧ (rdU l a).1 ≤ 1000000000000 ∧ 0 ≤ a ∧ a < (rdU l a).2.1 ∧ (rdU l a).2.1 ≤ l.length) := by
  have h := rdUgo_good l a 6 0 0 (by omega) (by omega) (by simp)
  simpa [rdU] using h
theorem rd_byte (l : List Int) (hb : ∀ x ∈ l, 0 ≤ x ∧ x ≤ 255) (i : Int) (h0 : 0 ≤ i) (h1 : i < l.length) : 0 ≤ rd l i ∧ rd l i ≤ 255 := by
  refine hb _ ?_
  simp only [rd, List.getD_eq_getElem?_getD, List.getElem?_eq_getElem (show i.toNat < l.length by omega), Option.getD_some]
  exact List.getElem_mem _

def rdB (l : List Int) (a m : Int) : List Int × Int × Bool :=
  if (rdU l a).2.2 = true ∧ (rdU l a).1 ≤ m ∧ (rdU l a).1 ≤ (l.length : Int) - (rdU l a).2.1 then
    ((l.take ((rdU l a).2.1 + (rdU l a).1).toNat).drop (rdU l a).2.1.toNat, (rdU l a).2.1 + (rdU l a).1, true)
  else ([], 0, false)
theorem rdB_length (l : List Int) (a m : Int) : (rdB l a m).1.length ≤ l.length := by
  unfold rdB
  split
  · simp only [List.length_drop, List.length_take]
    omega
  · simp

theorem impl_rdU_j1 (k : Nat) (l : List Int) (a n x q : Int) (kk : Nat) (hl : l.length ≤ 17592186044416) (hk : kk ≤ 5) (h1 : 0 ≤ a) (h2 : a + kk < l.length) (hx : rd l (a + kk) = x) (hx0 : 0 ≤ x) (hx1 : x ≤ 255)
    (hq : wrap64 (n + shl .i64 (Int.tmod x 128) (7 * (kk : Int))) = q) :
    impl_ReadUvarint.j1 (k + 1) l a n (kk : Int) true = if x < 128 then (if (0 < kk ∧ x = 0) ∨ q > 1000000000000 then some (0, 0, false) else some (q, a + kk + 1, true)) else impl_ReadUvarint.l0 k l a q ((kk + 1 : Nat) : Int) := by
  revert hq hx
  have e1 : wrap64 (a + (kk : Int)) = a + kk := wrapS (by omega) (by omega)
  have e2 : wrap64 x = x := wrapS (by omega) (by omega)
  have e3 : wrap64 (7 * (kk : Int)) = 7 * kk := wrapS (by omega) (by omega)
  have e5 : wrap64 ((kk : Int) + 1) = ((kk + 1 : Nat) : Int) := by rw [wrapS (by omega) (by omega)]; rfl
  have e6 : wrap64 (a + (kk : Int) + 1) = a + kk + 1 := wrapS (by omega) (by omega)
  intro hx hq
  simp only [impl_ReadUvarint.j1, if_true, e1, hx, e2, e3, hq, e5, e6]
  clear hq hx e1 e2 e3 e5 e6
  rw [if_pos (by omega), if_pos (by omega), if_pos (by omega)]
  by_cases c1 : x < 128 <;> by_cases c2 : x = 0 <;> by_cases c3 : kk = 0 <;> by_cases c4 : q > 1000000000000 <;> simp [c1, c2, c3, c4, show ((kk : Int) > 0) = (0 < kk) from by simp] <;> omega
theorem impl_ReadUvarint_ev (l : List Int) (a : Int) (hl : l.length ≤ 17592186044416) (hb : ∀ x ∈ l, 0 ≤ x ∧ x ≤ 255) : Ev (fun k => impl_ReadUvarint.f k l a) (rdU l a) := by
  have key : 0 ≤ a ∧ a ≤ (l.length : Int) - 1 → ∀ (d kk : Nat) (n : Int), kk + d = 6 → 0 ≤ n → n < 128 ^ kk → Ev (fun k => impl_ReadUvarint.l0 k l a n (kk : Int)) (rdUgo l a d kk n) := by
    intro hr d
    induction d with
    | zero =>
      intro kk n hk h0 hn
      clear hn
      refine Ev.step (f := fun k => impl_ReadUvarint.j1 k l a n (kk : Int) false) (fun k => ?_) (Ev.step (f := fun _ => some (0, 0, false)) (fun k => ?_) (Ev.now _))
      · simp only [impl_ReadUvarint.l0]
        rw [if_neg (by omega)]
      · simp only [impl_ReadUvarint.j1, Bool.false_eq_true, if_false]
    | succ d ih =>
      intro kk n hk h0 hn
      unfold rdUgo
      by_cases h : 0 ≤ a ∧ a + kk < l.length
      · rw [if_pos h]
        have hx := rd_byte l hb (a + kk) (by omega) (by omega)
        generalize ex : rd l (a + kk) = x at hx ⊢
        have hp := pow7 kk (by omega) n (x % 128) h0 hn (by omega) (by omega)
        have hi := ih (kk + 1) (n + x % 128 * 128 ^ kk) (by omega) hp.1 hp.2.1
        have e4 : wrap64 (n + shl .i64 (Int.tmod x 128) (7 * (kk : Int))) = n + x % 128 * 128 ^ kk := by
          rw [Int.tmod_eq_emod_of_nonneg hx.1, shl7 kk (by omega) _ (by omega) (by omega), wrapS (by omega) (by omega)]
        generalize eq : n + x % 128 * 128 ^ kk = q at *
        clear hp hn ih eq
        have E4 := Aside0.mk e4
        clear e4
        refine Ev.step (f := fun k => impl_ReadUvarint.j1 k l a n (kk : Int) true) (fun k => ?_) ?_
        · simp only [impl_ReadUvarint.l0]
          rw [if_pos (by omega), wrapS (by omega) (by omega), decide_eq_true (by omega)]
        · refine Ev.step (fun k => impl_rdU_j1 k l a n x q kk hl (by omega) h.1 h.2 ex hx.1 hx.2 E4.out) ?_
          by_cases c : x < 128
          · simp only [if_pos c]
            by_cases c2 : (0 < kk ∧ x = 0) ∨ q > 1000000000000
            · simp only [if_pos c2]; exact Ev.now _
            · simp only [if_neg c2]; exact Ev.now _
          · simp only [if_neg c]
            exact hi
      · rw [if_neg h]
        clear hn
        refine Ev.step (f := fun k => impl_ReadUvarint.j1 k l a n (kk : Int) false) (fun k => ?_) (Ev.step (f := fun _ => some (0, 0, false)) (fun k => ?_) (Ev.now _))
        · simp only [impl_ReadUvarint.l0]
          rw [if_pos (by omega), wrapS (by omega) (by omega), decide_eq_false (by omega)]
        · simp only [impl_ReadUvarint.j1, Bool.false_eq_true, if_false]
  unfold impl_ReadUvarint.f
  simp only [impl_InRange_is, Option.bind_some]
  rw [show wrap64 ((l.length : Int) - 1) = (l.length : Int) - 1 from wrapS (by omega) (by omega)]
  by_cases hr : 0 ≤ a ∧ a ≤ (l.length : Int) - 1
  · simp only [decide_eq_true hr, if_true]
    exact key hr 6 0 0 (by omega) (by omega) (by simp)
  · simp only [decide_eq_false hr, Bool.false_eq_true, if_false]
    have e : rdU l a = (0, 0, false) := by
      unfold rdU rdUgo
      rw [if_neg (by omega)]
    rw [e]
    exact Ev.now _



theorem impl_ReadBytes_ev (l : List Int) (a m : Int) (hl : l.length ≤ 17592186044416) (hb : ∀ x ∈ l, 0 ≤ x ∧ x ≤ 255) : Ev (fun k => impl_ReadBytes.f k l a m) (rdB l a m) := by
  unfold impl_ReadBytes.f
  refine Ev.bind (impl_ReadUvarint_ev l a hl hb) ?_
  have hg := rdU_good l a
  unfold rdB
  generalize rdU l a = r at hg ⊢
  obtain ⟨n, e, ok⟩ := r
  dsimp only at hg ⊢
  rcases hg with ⟨h1, h2, h3⟩ | ⟨h1, h2, h3, h4, h5, h6⟩
  · subst h1
    rw [if_neg (by simp)]
    simp only [Bool.false_eq_true, if_false]
    exact Ev.now _
  · subst h1
    simp only [if_true, true_and]
    by_cases c1 : n > m
    · simp only [if_pos c1]
      rw [if_neg (by omega)]
      exact Ev.now _
    · simp only [if_neg c1, wrapS (x := (l.length : Int) - e) (by omega) (by omega)]
      by_cases c2 : n > (l.length : Int) - e
      · simp only [if_pos c2]
        rw [if_neg (by omega)]
        exact Ev.now _
      · simp only [if_neg c2, Option.bind_some, wrapS (x := e + n) (by omega) (by omega), List.nil_append, List.length_nil]
        rw [if_pos (⟨by omega, by omega⟩ : n ≤ m ∧ n ≤ (l.length : Int) - e)]
        have hlen : ((l.take (e + n).toNat).drop e.toNat).length ≤ l.length := by
          simp only [List.length_drop, List.length_take]
          omega
        simp only [if_pos (show (0 : Int) ≤ e from by omega), if_pos (show e ≤ e + n from by omega), if_pos (show e + n ≤ (l.length : Int) from by omega), if_pos (show 0 + ((l.take (e + n).toNat).drop e.toNat).length < 140737488355328 from by omega)]
        exact Ev.now _

def encI (b : List Int) (l : List Int) : List Int := l.foldl appU b
theorem encI_length (l : List Int) : ∀ b, (encI b l).length ≤ b.length + 7 * l.length := by
  induction l with
  | nil => intro b; simp [encI]
  | cons n l ih =>
    intro b
    have h1 := ih (appU b n)
    have h2 := appU_length b n
    simp only [encI, List.foldl_cons, List.length_cons] at *
    omega

theorem impl_EncodeInts_ev (l : List Int) (hl : l.length ≤ 8388608) : Ev (fun k => impl_EncodeInts.f k l) (encI [] l) := by
  have key : ∀ (n : Nat) (o : List Int) (i : Int), 0 ≤ i → i + n = l.length → o.length ≤ 7 * i.toNat → Ev (fun k => impl_EncodeInts.l0 k o l (l.length : Int) i) (encI o (l.drop i.toNat)) := by
    intro n
    induction n with
    | zero =>
      intro o i h0 hi ho
      rw [List.drop_eq_nil_of_le (by omega)]
      refine Ev.step (f := fun _ => some o) (fun k => ?_) (Ev.now _)
      simp only [impl_EncodeInts.l0]
      rw [if_neg (by omega)]
    | succ n ih =>
      intro o i h0 hi ho
      have h2 := appU_length o (rd l i)
      have hi2 := ih (appU o (rd l i)) (i + 1) (by omega) (by omega) (by omega)
      rw [drop_rd l i h0 (by omega)]
      refine Ev.step (f := fun k => (impl_AppendUvarint.f k o (rd l i)).bind fun t => impl_EncodeInts.l0 k t l (l.length : Int) (i + 1)) (fun k => ?_) (Ev.bind (impl_AppendUvarint_ev o (rd l i) (by omega)) hi2)
      simp only [impl_EncodeInts.l0]
      rw [if_pos (by omega), if_pos h0, if_pos (by omega), wrapS (by omega) (by omega)]
  exact key l.length [] 0 (by omega) (by omega) (by simp)

def decGo (l : List Int) : Nat → Int → List Int → List Int × Int × Bool
  | 0, a, o => (o, a, true)
  | d + 1, a, o => if (rdU l a).2.2 = true then decGo l d (rdU l a).2.1 (o ++ [(rdU l a).1]) else ([], 0, false)
def decI (l : List Int) (a c : Int) : List Int × Int × Bool := if (0 ≤ c ∧ c ≤ 100) ∧ 0 ≤ a ∧ a ≤ (l.length : Int) then decGo l c.toNat a [] else ([], 0, false)
theorem decGo_length (l : List Int) (d : Nat) : ∀ a o, (decGo l d a o).1.length ≤ o.length + d := by
  induction d with
  | zero => intro a o; simp [decGo]
  | succ d ih =>
    intro a o
    unfold decGo
    split
    · have := ih (rdU l a).2.1 (o ++ [(rdU l a).1])
      simp only [List.length_append, List.length_cons, List.length_nil] at this
      omega
    · simp
theorem decI_length (l : List Int) (a c : Int) : (decI l a c).1.length ≤ 100 := by
  unfold decI
  split
  · have := decGo_length l c.toNat a []
    simp only [List.length_nil] at this
    omega
  · simp

theorem impl_DecodeInts_ev (l : List Int) (a c : Int) (hl : l.length ≤ 17592186044416) (hb : ∀ x ∈ l, 0 ≤ x ∧ x ≤ 255) : Ev (fun k => impl_DecodeInts.f k l a c) (decI l a c) := by
  have key : c ≤ 100 → ∀ (d j : Nat) (a : Int) (o : List Int), (j : Int) + d = c → o.length = j → Ev (fun k => impl_DecodeInts.l0 k l a o c ((j : Nat) : Int)) (decGo l d a o) := by
    intro hc d
    induction d with
    | zero =>
      intro j a o hj ho
      refine Ev.step (f := fun _ => some (o, a, true)) (fun k => ?_) (Ev.now _)
      simp only [impl_DecodeInts.l0]
      rw [if_neg (by omega)]
    | succ d ih =>
      intro j a o hj ho
      refine Ev.step (f := fun k => (impl_ReadUvarint.f k l a).bind fun t => if t.2.2 = true then (if o.length < 17592186044416 then impl_DecodeInts.l0 k l t.2.1 (o ++ [t.1]) c ((j + 1 : Nat) : Int) else none) else some ([], 0, false)) (fun k => ?_) (Ev.bind (impl_ReadUvarint_ev l a hl hb) ?_)
      · simp only [impl_DecodeInts.l0]
        rw [if_pos (by omega), wrapS (x := (j : Int) + 1) (by omega) (by omega)]
        rfl
      · unfold decGo
        by_cases h : (rdU l a).2.2 = true
        · simp only [if_pos h, if_pos (show o.length < 17592186044416 from by omega)]
          exact ih (j + 1) _ _ (by omega) (by simp; omega)
        · simp only [if_neg h]
          exact Ev.now _
  have jt : Ev (fun k => impl_DecodeInts.j0 k l a c true) ([], 0, false) := by
    refine Ev.step (f := fun _ => some ([], 0, false)) (fun k => ?_) (Ev.now _)
    simp only [impl_DecodeInts.j0, if_true]
  unfold impl_DecodeInts.f decI
  simp only [impl_InRange_is, Option.bind_some]
  by_cases c1 : 0 ≤ c ∧ c ≤ 100
  · simp only [decide_eq_true c1, if_true]
    by_cases c2 : 0 ≤ a ∧ a ≤ (l.length : Int)
    · simp only [decide_eq_true c2, Bool.not_true]
      rw [if_pos ⟨c1, c2⟩]
      have h := key c1.2 c.toNat 0 a [] (by omega) rfl
      refine Ev.step (f := fun k => impl_DecodeInts.l0 k l a [] c 0) (fun k => ?_) h
      simp only [impl_DecodeInts.j0, Bool.false_eq_true, if_false]
    · simp only [decide_eq_false c2, Bool.not_false]
      rw [if_neg (fun h => c2 h.2)]
      exact jt
  · simp only [decide_eq_false c1, Bool.false_eq_true, if_false]
    rw [if_neg (fun h => c1 h.1)]
    exact jt

theorem mulP (q r P : Int) : (128 * q + r) * P = 128 * (q * P) + r * P := by
  rw [Int.add_mul, Int.mul_assoc]
theorem mulP2 (q P : Int) : q * (P * 128) = 128 * (q * P) := by
  rw [← Int.mul_assoc, Int.mul_comm]
theorem rd_drop (l : List Int) (i : Int) (h0 : 0 ≤ i) (x : Int) (t : List Int) (h : l.drop i.toNat = x :: t) : rd l i = x ∧ i < l.length ∧ l.drop (i + 1).toNat = t := by
  have hl : i.toNat < l.length := by
    refine Classical.byContradiction fun hn => ?_
    rw [List.drop_eq_nil_of_le (by omega)] at h
    cases h
  rw [drop_rd l i h0 (by omega)] at h
  injection h with h1 h2
  exact ⟨h1, by omega, h2⟩
/-- What was written is read. -/
theorem rdUgo_uv (l : List Int) (a : Int) (ha : 0 ≤ a) (post : List Int) (d : Nat) : ∀ (kk : Nat) (acc m : Int), kk + d = 6 → 0 ≤ m → m < 128 ^ d → (0 < kk → 0 < m) → 0 ≤ acc → acc + m * 128 ^ kk ≤ 1000000000000 → l.drop (a + kk).toNat = uvE d m ++ post → rdUgo l a d kk acc = (acc + m * 128 ^ kk, a + kk + (uvE d m).length, true) := by
  induction d with
  | zero =>
    intro kk acc m hk h0 h1 h2
    simp at h1
    omega
  | succ d ih =>
    intro kk acc m hk h0 h1 h2 hacc h3 hd
    have hP : (0 : Int) < 128 ^ kk := Int.pow_pos (by omega)
    unfold rdUgo
    by_cases c : m < 128
    · have e : uvE (d + 1) m = [m] := by rw [uvE, if_pos c]
      rw [e, List.singleton_append] at hd
      obtain ⟨r1, r2, r3⟩ := rd_drop l (a + kk) (by omega) _ _ hd
      rw [if_pos ⟨ha, r2⟩, r1, if_pos c, e, show m % 128 = m from by omega, if_neg (by omega)]
      rfl
    · have e : uvE (d + 1) m = (m % 128 + 128) :: uvE d (m / 128) := by rw [uvE, if_neg c]
      rw [e, List.cons_append] at hd
      obtain ⟨r1, r2, r3⟩ := rd_drop l (a + kk) (by omega) _ _ hd
      have hp1 : m < 128 * 128 ^ d := by rw [Int.pow_succ] at h1; omega
      have hm : m = 128 * (m / 128) + m % 128 := by omega
      have hv : acc + m % 128 * 128 ^ kk + m / 128 * 128 ^ (kk + 1) = acc + m * 128 ^ kk := by
        have e1 := mulP (m / 128) (m % 128) (128 ^ kk)
        rw [← hm] at e1
        rw [Int.pow_succ, mulP2, e1]
        omega
      have hq : 0 ≤ m % 128 * 128 ^ kk := Int.mul_nonneg (by omega) (by omega)
      have hi := ih (kk + 1) (acc + m % 128 * 128 ^ kk) (m / 128) (by omega) (by omega) (by omega) (fun _ => by omega) (by omega) (by rw [hv]; exact h3) (by rw [show a + ((kk + 1 : Nat) : Int) = a + kk + 1 from by omega]; exact r3)
      rw [hv] at hi
      rw [if_pos ⟨ha, r2⟩, r1, if_neg (by omega), show (m % 128 + 128) % 128 = m % 128 from by omega, hi, e, List.length_cons]
      congr 2
      omega
theorem rdU_uv (pre post : List Int) (n : Int) (h0 : 0 ≤ n) (h1 : n ≤ 1000000000000) : rdU (pre ++ (uv n ++ post)) pre.length = (n, (pre.length : Int) + (uv n).length, true) := by
  have h := rdUgo_uv (pre ++ (uv n ++ post)) pre.length (by omega) post 6 0 0 n (by omega) h0 (by omega) (fun h => by omega) (by omega) (by omega) (by simp [uv])
  rw [rdU, h]
  simp [uv]
/-- What is read was so written. -/
theorem rdUgo_uv_back (l : List Int) (a : Int) (hb : ∀ x ∈ l, 0 ≤ x ∧ x ≤ 255) (d : Nat) : ∀ (kk : Nat) (acc v e : Int), rdUgo l a d kk acc = (v, e, true) → 0 ≤ a ∧ ∃ m, v = acc + m * 128 ^ kk ∧ 0 ≤ m ∧ (0 < kk → 0 < m) ∧ e = a + kk + (uvE d m).length ∧ (l.drop (a + kk).toNat).take (uvE d m).length = uvE d m := by
  induction d with
  | zero =>
    intro kk acc v e h
    simp [rdUgo] at h
  | succ d ih =>
    intro kk acc v e h
    unfold rdUgo at h
    by_cases c1 : 0 ≤ a ∧ a + kk < l.length
    · rw [if_pos c1] at h
      have hx := rd_byte l hb (a + kk) (by omega) c1.2
      have hdr := drop_rd l (a + kk) (by omega) c1.2
      generalize rd l (a + kk) = x at h hx hdr
      by_cases c2 : x < 128
      · rw [if_pos c2] at h
        by_cases c3 : (0 < kk ∧ x = 0) ∨ acc + x % 128 * 128 ^ kk > 1000000000000
        · rw [if_pos c3] at h
          simp at h
        · rw [if_neg c3] at h
          simp only [Prod.mk.injEq, and_true] at h
          have e1 : uvE (d + 1) x = [x] := by rw [uvE, if_pos c2]
          refine ⟨c1.1, x, ?_, hx.1, fun hk => ?_, ?_, ?_⟩
          · rw [← h.1, show x % 128 = x from by omega]
          · have : ¬ (0 < kk ∧ x = 0) := fun h => c3 (Or.inl h)
            omega
          · rw [e1, ← h.2]
            rfl
          · rw [e1, hdr]
            rfl
      · rw [if_neg c2] at h
        obtain ⟨ha, m, h1, h2, h3, h4, h5⟩ := ih (kk + 1) _ v e h
        have h3 := h3 (by omega)
        have e1 : uvE (d + 1) (128 * m + x % 128) = x :: uvE d m := by
          rw [uvE, if_neg (by omega), show (128 * m + x % 128) % 128 + 128 = x from by omega, show (128 * m + x % 128) / 128 = m from by omega]
        refine ⟨c1.1, 128 * m + x % 128, ?_, by omega, fun _ => by omega, ?_, ?_⟩
        · rw [h1, Int.pow_succ, mulP2, mulP]
          omega
        · rw [e1, h4, List.length_cons]
          omega
        · rw [e1, hdr, List.length_cons, List.take_succ_cons]
          congr 1
          rw [show (a + (kk : Int) + 1).toNat = (a + ((kk + 1 : Nat) : Int)).toNat from by omega]
          exact h5
    · rw [if_neg c1] at h
      simp at h
theorem rdU_uv_back (l : List Int) (a : Int) (hb : ∀ x ∈ l, 0 ≤ x ∧ x ≤ 255) (v e : Int) (h : rdU l a = (v, e, true)) : (l.take e.toNat).drop a.toNat = uv v := by
  obtain ⟨ha, m, h1, h2, _, h4, h5⟩ := rdUgo_uv_back l a hb 6 0 0 v e h
  have e1 : v = m := by rw [h1]; simp
  subst e1
  rw [show (a + ((0 : Nat) : Int)).toNat = a.toNat from by omega] at h5
  rw [List.drop_take]
  rw [show e.toNat - a.toNat = (uvE 6 v).length from by omega]
  exact h5
theorem appU_byte (b : List Int) (n : Int) (hb : ∀ x ∈ b, 0 ≤ x ∧ x ≤ 255) : ∀ x ∈ appU b n, 0 ≤ x ∧ x ≤ 255 := by
  intro x hx
  unfold appU at hx
  split at hx
  · rename_i h
    rcases List.mem_append.1 hx with h1 | h1
    · exact hb x h1
    · exact uvE_byte 6 n h.1 x h1
  · exact hb x hx
theorem rdU_end (l : List Int) : rdU l l.length = (0, 0, false) := by
  unfold rdU rdUgo
  rw [if_neg (by omega)]

theorem laws_sameBytes_ev (l : List Int) (hl : l.length ≤ 17592186044416) : Ev (fun k => laws_sameBytes.f k l l) true := by
  have key : ∀ (d : Nat) (i : Int), 0 ≤ i → i + d = l.length → Ev (fun k => laws_sameBytes.l0 k l l i) true := by
    intro d
    induction d with
    | zero =>
      intro i h0 hi
      refine Ev.step (f := fun _ => some true) (fun k => ?_) (Ev.now _)
      simp only [laws_sameBytes.l0]
      rw [if_neg (by omega)]
    | succ d ih =>
      intro i h0 hi
      refine Ev.step (f := fun k => laws_sameBytes.l0 k l l (i + 1)) (fun k => ?_) (ih _ (by omega) (by omega))
      simp only [laws_sameBytes.l0]
      rw [if_pos (by omega), if_pos h0, if_pos (by omega), wrapS (by omega) (by omega)]
      simp
  refine Ev.congr (f := fun k => laws_sameBytes.l0 k l l 0) (fun k => ?_) (key l.length 0 (by omega) (by omega))
  unfold laws_sameBytes.f
  rw [if_pos rfl]

theorem laws_sameInts_ev (l : List Int) (hl : l.length ≤ 17592186044416) : Ev (fun k => laws_sameInts.f k l l) true := by
  have key : ∀ (d : Nat) (i : Int), 0 ≤ i → i + d = l.length → Ev (fun k => laws_sameInts.l0 k l l i) true := by
    intro d
    induction d with
    | zero =>
      intro i h0 hi
      refine Ev.step (f := fun _ => some true) (fun k => ?_) (Ev.now _)
      simp only [laws_sameInts.l0]
      rw [if_neg (by omega)]
    | succ d ih =>
      intro i h0 hi
      refine Ev.step (f := fun k => laws_sameInts.l0 k l l (i + 1)) (fun k => ?_) (ih _ (by omega) (by omega))
      simp only [laws_sameInts.l0]
      rw [if_pos (by omega), if_pos h0, if_pos (by omega), wrapS (by omega) (by omega)]
      simp
  refine Ev.congr (f := fun k => laws_sameInts.l0 k l l 0) (fun k => ?_) (key l.length 0 (by omega) (by omega))
  unfold laws_sameInts.f
  rw [if_pos rfl]

theorem DrawAppendBytes_ex (l : List Int) (hl : l.length ≤ 1048576) : ∃ (b d : List Int), Ev (fun k => spec_DrawAppendBytes.f k l) (b, d) ∧ (∀ x ∈ b, 0 ≤ x ∧ x ≤ 255) ∧ b.length ≤ 8 ∧ (∀ x ∈ d, 0 ≤ x ∧ x ≤ 255) ∧ d.length ≤ 8 := by
  obtain ⟨h, hn⟩ := l1New_ex l hl
  obtain ⟨c, i1, h1, e1, _, b1, g1⟩ := l1Below_ex l 0 h 3 (by omega) hl
  have b1 := b1 (by omega)
  obtain ⟨o, i2, h2, hE, hx, hlen, g2⟩ := l1Bytes_ex l i1 h1 c g1 hl (by omega)
  obtain ⟨c2, i3, h3, e3, _, b3, g3⟩ := l1Below_ex l i2 h2 6 g2 hl
  have b3 := b3 (by omega)
  obtain ⟨o2, i4, h4, hE2, hx2, hlen2, g4⟩ := l1Bytes_ex l i3 h3 c2 g3 hl (by omega)
  refine ⟨o, o2, ?_, hx, by omega, hx2, by omega⟩
  unfold spec_DrawAppendBytes.f
  refine Ev.bind hn ?_
  simp only [e1, Option.bind_some]
  refine Ev.bind hE ?_
  simp only [e3, Option.bind_some]
  exact Ev.bind hE2 (Ev.now _)
/-- Numbers that were encoded are decoded. -/
theorem encI_split (l : List Int) (hl : ∀ x ∈ l, 0 ≤ x ∧ x ≤ 1000000000000) : ∀ b, ∃ t, encI b l = b ++ t ∧ ∀ n ∈ l, True := by
  intro b
  induction l generalizing b with
  | nil => exact ⟨[], by simp [encI], fun _ _ => trivial⟩
  | cons x l ih =>
    obtain ⟨t, ht, _⟩ := ih (fun y hy => hl y (by simp [hy])) (appU b x)
    refine ⟨uv x ++ t, ?_, fun _ _ => trivial⟩
    have e : appU b x = b ++ uv x := by unfold appU; rw [if_pos (hl x (by simp))]
    rw [show encI b (x :: l) = encI (appU b x) l from rfl, ht, e, List.append_assoc]
theorem decGo_enc (l : List Int) (hl : ∀ x ∈ l, 0 ≤ x ∧ x ≤ 1000000000000) (more : Nat) : ∀ b o, decGo (encI b l) (l.length + more) b.length o = decGo (encI b l) more (encI b l).length (o ++ l) := by
  induction l with
  | nil =>
    intro b o
    simp [encI]
  | cons x l ih =>
    intro b o
    have hx := hl x (by simp)
    have e : appU b x = b ++ uv x := by unfold appU; rw [if_pos hx]
    obtain ⟨t, ht, _⟩ := encI_split l (fun y hy => hl y (by simp [hy])) (appU b x)
    have es : encI b (x :: l) = b ++ (uv x ++ t) := by rw [show encI b (x :: l) = encI (appU b x) l from rfl, ht, e, List.append_assoc]
    have er := rdU_uv b t x hx.1 hx.2
    have hi := ih (fun y hy => hl y (by simp [hy])) (appU b x) (o ++ [x])
    rw [show (x :: l).length + more = (l.length + more) + 1 from by simp; omega, decGo, es, er]
    simp only [if_true]
    rw [show ((b.length : Int) + (uv x).length) = ((appU b x).length : Int) from by rw [e]; simp, ← es]
    rw [show encI b (x :: l) = encI (appU b x) l from rfl, hi]
    simp
theorem encI_byte (l : List Int) : ∀ b, (∀ x ∈ b, 0 ≤ x ∧ x ≤ 255) → ∀ x ∈ encI b l, 0 ≤ x ∧ x ≤ 255 := by
  induction l with
  | nil => intro b hb; exact hb
  | cons n l ih => intro b hb; exact ih (appU b n) (appU_byte b n hb)
theorem laws_at_ex (l : List Int) (i : Int) (hl : l.length ≤ 1048576) (hb : ∀ x ∈ l, 0 ≤ x ∧ x ≤ 255) (h0 : 0 ≤ i) (h1 : i ≤ 1000) : ∃ x, laws_at.f l i = some x ∧ 0 ≤ x ∧ x ≤ 255 := by
  unfold laws_at.f
  by_cases c : i < (l.length : Int)
  · have hx := rd_byte l hb i h0 c
    rw [if_pos c, if_pos h0, wrapS (by omega) (by omega)]
    exact ⟨_, rfl, hx⟩
  · rw [if_neg c, wrapS (x := i * 31) (by omega) (by omega), wrapS (x := (l.length : Int) * 7) (by omega) (by omega), wrapS (by omega) (by omega), Int.tmod_eq_emod_of_nonneg (by omega)]
    exact ⟨_, rfl, by omega, by omega⟩
theorem byteStrings_l0 (l : List Int) (hl : l.length ≤ 1048576) (hb : ∀ x ∈ l, 0 ≤ x ∧ x ≤ 255) : ∀ (d : Nat) (o : List Int) (j : Int), 0 ≤ j → j + d = 6 → o.length = j.toNat → (∀ x ∈ o, 0 ≤ x ∧ x ≤ 1000000000000) → Ev (fun k => laws_FnByteStrings.l0 k l o j) true := by
  obtain ⟨c, ec, bc⟩ := laws_at_ex l 0 hl hb (by omega) (by omega)
  have et : Int.tmod c 6 = c % 6 := Int.tmod_eq_emod_of_nonneg bc.1
  have fin : ∀ (o : List Int) (j : Int), ¬ j < c % 6 → o.length ≤ 6 → (∀ x ∈ o, 0 ≤ x ∧ x ≤ 1000000000000) → Ev (fun k => laws_FnByteStrings.l0 k l o j) true := by
    intro o j hj ho hx
    have hw := encI_length o []
    have hy := encI_byte o [] (fun x hx => by simp at hx)
    have d1 := decGo_enc o hx 0 [] []
    have d2 := decGo_enc o hx 1 [] []
    simp only [List.length_nil, Nat.zero_add] at hw
    refine Ev.step (f := fun k => (impl_EncodeInts.f k o).bind fun t246 => ((impl_DecodeInts.f k t246 0 (o.length : Int)).bind fun bt249 => ((impl_DecodeInts.f k t246 0 ((o.length : Int) + 1)).bind fun bt254 => (if bt249.2.2 = true then ((laws_sameInts.f k bt249.1 o).bind fun t259 => (if t259 = true then (if bt249.2.1 = (t246.length : Int) then (some (!bt254.2.2)) else (some false)) else (some false))) else (some false))))) (fun k => ?_) (Ev.bind (impl_EncodeInts_ev o (by omega)) ?_)
    · simp only [laws_FnByteStrings.l0, ec, Option.bind_some, et]
      rw [if_neg hj, wrapS (x := (o.length : Int) + 1) (by omega) (by omega)]
    · have r1 : decI (encI [] o) 0 (o.length : Int) = (o, ((encI [] o).length : Int), true) := by
        unfold decI
        rw [if_pos ⟨⟨by omega, by omega⟩, by omega, by omega⟩]
        simpa [decGo] using d1
      have r2 : decI (encI [] o) 0 ((o.length : Int) + 1) = ([], 0, false) := by
        unfold decI
        rw [if_pos ⟨⟨by omega, by omega⟩, by omega, by omega⟩]
        have e : ((o.length : Int) + 1).toNat = o.length + 1 := by omega
        rw [e]
        have e2 : decGo (encI [] o) 1 ((encI [] o).length : Int) ([] ++ o) = ([], 0, false) := by
          rw [decGo, rdU_end]
          simp
        rw [e2] at d2
        simpa using d2
      refine Ev.bind (impl_DecodeInts_ev _ 0 _ (by omega) hy) (Ev.bind (impl_DecodeInts_ev _ 0 _ (by omega) hy) ?_)
      rw [r1, r2]
      simp only [if_true]
      refine Ev.bind (laws_sameInts_ev o (by omega)) ?_
      simp only [if_true, Bool.not_false]
      exact Ev.now _
  intro d
  induction d with
  | zero =>
    intro o j h0 hj ho hx
    exact fin o j (by omega) (by omega) hx
  | succ d ih =>
    intro o j h0 hj ho hx
    by_cases cj : j < c % 6
    · obtain ⟨x, ex, bx⟩ := laws_at_ex l (j + 1) hl hb (by omega) (by omega)
      obtain ⟨y, ey, by'⟩ := laws_at_ex l (j + 2) hl hb (by omega) (by omega)
      obtain ⟨z, ez, bz⟩ := laws_at_ex l (j + 3) hl hb (by omega) (by omega)
      have u1 : x * y ≤ 255 * 255 := Int.mul_le_mul bx.2 by'.2 by'.1 (by omega)
      have v1 : 0 ≤ x * y := Int.mul_nonneg bx.1 by'.1
      have u2 : x * y * z ≤ 65025 * 255 := Int.mul_le_mul (by omega) bz.2 bz.1 (by omega)
      have v2 : 0 ≤ x * y * z := Int.mul_nonneg v1 bz.1
      have hi := ih (o ++ [x * y * z]) (j + 1) (by omega) (by omega) (by simp; omega) (by
        intro q hq
        rcases List.mem_append.1 hq with h | h
        · exact hx q h
        · simp at h; omega)
      refine Ev.step (f := fun k => laws_FnByteStrings.l0 k l (o ++ [x * y * z]) (j + 1)) (fun k => ?_) hi
      simp only [laws_FnByteStrings.l0, ec, Option.bind_some, et]
      rw [if_pos cj, wrapS (x := j + 1) (by omega) (by omega), wrapS (x := j + 2) (by omega) (by omega), wrapS (x := j + 3) (by omega) (by omega), ex, ey, ez]
      simp only [Option.bind_some]
      rw [if_pos (by omega), wrapS (x := x * y) (by omega) (by omega), wrapS (by omega) (by omega)]
    · exact fin o j cj (by omega) hx
theorem FnByteStrings : laws_FnByteStrings.Pure := by
  intro l _ _ hb
  have hb := fun x hx => u8wf (hb x hx)
  apply Ev.rounds
  unfold laws_FnByteStrings.f laws_big.f
  simp only [Option.bind_some]
  by_cases h1 : (l.length : Int) > 1048576
  · simp only [decide_eq_true h1, if_true]; exact Ev.now _
  simp only [decide_eq_false h1, Bool.false_eq_true, if_false]
  obtain ⟨b, d, hE, hx, hlen, hx2, hlen2⟩ := DrawAppendBytes_ex l (by omega)
  have hw := appB_length b d
  have ha : appB b d = b ++ (uv (d.length : Int) ++ d) := by
    unfold appB appU
    rw [if_pos ⟨by omega, by omega⟩, List.append_assoc]
  have hy : ∀ x ∈ appB b d, 0 ≤ x ∧ x ≤ 255 := by
    intro x hxx
    unfold appB at hxx
    rcases List.mem_append.1 hxx with h | h
    · exact appU_byte b _ hx x h
    · exact hx2 x h
  have er := rdU_uv b d (d.length : Int) (by omega) (by omega)
  rw [← ha] at er
  have hal : (appB b d).length = b.length + (uv (d.length : Int)).length + d.length := by rw [ha]; simp; omega
  generalize hu : (uv (d.length : Int)) = u at *
  have q1 : ((b.length : Int) + (u.length : Int) + (d.length : Int)).toNat = (appB b d).length := by omega
  have q2 : ((b.length : Int) + (u.length : Int)).toNat = (b ++ u).length := by rw [List.length_append]; omega
  have q3 : (b.length : Int) + (u.length : Int) + (d.length : Int) = ((appB b d).length : Int) := by omega
  have e1 : ((appB b d).take ((b.length : Int) + (u.length : Int) + (d.length : Int)).toNat).drop ((b.length : Int) + (u.length : Int)).toNat = d := by
    rw [q1, q2, List.take_length, ha, ← List.append_assoc, List.drop_left]
  have r1 : rdB (appB b d) b.length (d.length : Int) = (d, ((appB b d).length : Int), true) := by
    unfold rdB
    rw [er]
    simp only [true_and]
    rw [if_pos ⟨by omega, by omega⟩, e1, q3]
  have r2 : rdB (appB b d) b.length ((d.length : Int) - 1) = ([], 0, false) := by
    unfold rdB
    rw [er]
    simp only [true_and]
    rw [if_neg (by omega)]
  refine Ev.bind (hE) ?_
  refine Ev.bind (impl_AppendBytes_ev b d (by omega) (by omega)) ?_
  refine Ev.bind (impl_ReadBytes_ev (appB b d) b.length d.length (by omega) hy) ?_
  simp only [wrapS (x := (d.length : Int) - 1) (by omega) (by omega)]
  refine Ev.bind (impl_ReadBytes_ev (appB b d) b.length ((d.length : Int) - 1) (by omega) hy) ?_
  rw [r1, r2]
  simp only [if_true]
  refine Ev.bind (laws_sameBytes_ev d (by omega)) ?_
  simp only [if_true, if_false, Bool.false_eq_true, Bool.not_true, Bool.not_false, bne_self_eq_false, eq_self, ite_true, ite_false, reduceIte]
  refine Ev.step (f := fun k => laws_FnByteStrings.l0 k l [] 0) (fun k => ?_) (byteStrings_l0 l (by omega) hb 6 [] 0 (by omega) (by omega) rfl (fun x hx => by simp at hx))
  simp only [laws_FnByteStrings.j0, Bool.false_eq_true, if_false]

end Go.Proofs.Ytoafabcopihniaa.Pure
