/- FnIntegers answers true, for each list of bytes. -/
import Derived.Test.YtgdakjleighhcaaDoorQFnIntegersx3
import Derived.Test.YtgdakjleighhcaaDoorWSized
set_option linter.unusedVariables false
set_option linter.unusedSimpArgs false
namespace Go.Proofs.YtgdakjleighhcaaDoor.PrintWords
open Go.ChangeShapes Go.WideShapes
/-- The printed row names the word so; it lies one namespace beside. -/
theorem sized_ints {H : Type} {enc : TypeId × Value → H} {P : Program} {W : World} {base : Nat} {spare : Nat → Bool} {held : Bool} {t e : TypeId} {k : IntKind} {a : Option Addr} {len cap : Nat} {d : DataW H} {ps : List MemPlace} {ts : List TypeId} {ds : List (DataW H)} {j : Nat}
    (hsz : (DataW.weightsEach P ts ds).all (· ≤ reachBytes) = true) (ht : ts[j]? = some t) (hd : ds[j]? = some d) (hu : P.underlying t = some (.slice e)) (he : P.underlying e = some (.int k)) (hc : P.cellsOf e = 1) {B : Nat} (hB : P.bytesOf e = B)
    (h : DataW.Trod enc P W base spare held t (.slice a len cap) d ps) : len * B ≤ 140737488351232 :=
  Go.Proofs.YtgdakjleighhcaaDoorW.PrintWords.sized_ints hsz ht hd hu he hc hB h
end Go.Proofs.YtgdakjleighhcaaDoor.PrintWords
namespace Go.Proofs.YtgdakjleighhcaaDoor.Pure
open Go.RowKit Go.Proofs.YtgdakjleighhcaaDoor.QFnIntegers Go.Proofs.YtgdakjleighhcaaDoorW.PrintWords Go.Proofs.YtgdakjleighhcaaDoorW.PrintLast Go.Proofs.YtgdakjleighhcaaDoorW.PrintMore

theorem wrapS {x : Int} (h1 : -9223372036854775808 ≤ x) (h2 : x ≤ 9223372036854775807) : wrap64 x = x := by
  unfold wrap64
  omega
theorem i64wf {x : Int} (h : (Lit.int .i64 x).wf = true) : -9223372036854775808 ≤ x ∧ x ≤ 9223372036854775807 := by
  have h1 : (decide (IntKind.i64.min ≤ x) && decide (x ≤ IntKind.i64.max)) = true := h
  rw [Bool.and_eq_true, decide_eq_true_eq, decide_eq_true_eq] at h1
  exact h1
theorem u8wf {x : Int} (h : (Lit.int .u8 x).wf = true) : 0 ≤ x ∧ x ≤ 255 := by
  have h1 : (decide (IntKind.u8.min ≤ x) && decide (x ≤ IntKind.u8.max)) = true := h
  rw [Bool.and_eq_true, decide_eq_true_eq, decide_eq_true_eq] at h1
  exact h1
/-- What is told of some number of rounds is told of any three together. -/
theorem evNow {α : Type} {g : Option α} {r : α} (h : g = some r) : Ev (fun _ => g) r := ⟨0, fun _ _ => h⟩
theorem one_add_neg (n : Nat) : ((1 : Int) + (n : Int) < 0) = False := by
  simp only [eq_iff_iff, iff_false]
  omega

theorem ba_append (a b : List UInt8) : (⟨a.toArray⟩ : ByteArray) ++ (⟨b.toArray⟩ : ByteArray) = ⟨(a ++ b).toArray⟩ := by
  apply ByteArray.ext
  rw [ByteArray.data_append]
  simp
theorem ba_size (a : List UInt8) : (⟨a.toArray⟩ : ByteArray).size = a.length := by simp [ByteArray.size]
theorem ba_one (n : Nat) : strOfNums [(n : Int)] = (⟨[UInt8.ofNat n].toArray⟩ : ByteArray) := by simp [strOfNums]
/-- The digits of u ahead of what is written. -/
theorem fmt_round (x0 : Int) (neg : Bool) (j : Nat) : ∀ (u : Nat) (l : List UInt8), 1 ≤ u → u < 10 ^ j → l.length + j ≤ 20 → (u : Int) ≤ 9223372036854775808 → (neg = false → (u : Int) ≤ 9223372036854775807) →
    Ev (fun k => spec_FormatInt.l0 k x0 ⟨l.toArray⟩ (if neg then -(u : Int) else u)) ⟨((if x0 < 0 then [45] else []) ++ (Lib.decDigits u ++ l)).toArray⟩ := by
  induction j with
  | zero => intro u l h1 h2; simp at h2; omega
  | succ j ih =>
    intro u l h1 h2 hl hu hn
    have hs : ((if neg then -(u : Int) else u) = 0) = False := by
      simp only [eq_iff_iff, iff_false]
      cases neg <;> simp <;> omega
    have hd : ∃ c : Int, c = ((48 + u % 10 : Nat) : Int) ∧ ((Int.tmod (if neg then -(u : Int) else u) 10 < 0 ∧ (wrap64 (48 + (wrap64 (-(Int.tmod (if neg then -(u : Int) else u) 10))))) % 256 = c) ∨ (¬ Int.tmod (if neg then -(u : Int) else u) 10 < 0 ∧ (wrap64 (48 + (Int.tmod (if neg then -(u : Int) else u) 10))) % 256 = c)) := by
      refine ⟨_, rfl, ?_⟩
      cases neg with
      | true =>
        simp only [if_true, Int.neg_tmod]
        rw [Int.tmod_eq_emod_of_nonneg (by omega)]
        by_cases c : (u : Int) % 10 = 0
        · right
          rw [c, wrapS (by omega) (by omega)]
          omega
        · left
          rw [wrapS (x := - -((u : Int) % 10)) (by omega) (by omega), wrapS (by omega) (by omega)]
          omega
      | false =>
        right
        simp only [Bool.false_eq_true, if_false]
        rw [Int.tmod_eq_emod_of_nonneg (by omega), wrapS (by omega) (by omega)]
        omega
    have hq : wrap64 (Int.tdiv (if neg then -(u : Int) else u) 10) = (if neg then -((u / 10 : Nat) : Int) else ((u / 10 : Nat) : Int)) := by
      cases neg with
      | true =>
        simp only [if_true, Int.neg_tdiv]
        rw [Int.tdiv_eq_ediv_of_nonneg (by omega), wrapS (by omega) (by omega)]
        omega
      | false =>
        simp only [Bool.false_eq_true, if_false]
        rw [Int.tdiv_eq_ediv_of_nonneg (by omega), wrapS (by omega) (by omega)]
        omega
    obtain ⟨c, hc, hd⟩ := hd
    have hsz : (strOfNums [c]).size + (⟨l.toArray⟩ : ByteArray).size ≤ 9223372036854775807 := by
      rw [hc, ba_one, ba_size, ba_size]
      simp
      omega
    have hst : strOfNums [c] ++ (⟨l.toArray⟩ : ByteArray) = ⟨(UInt8.ofNat (48 + u % 10) :: l).toArray⟩ := by
      rw [hc, ba_one, ba_append]
      rfl
    refine Ev.step (f := fun k => spec_FormatInt.l0 k x0 ⟨(UInt8.ofNat (48 + u % 10) :: l).toArray⟩ (if neg then -((u / 10 : Nat) : Int) else ((u / 10 : Nat) : Int))) (fun k => ?_) ?_
    · simp only [spec_FormatInt.l0, hs, if_false]
      rcases hd with ⟨h1, h2⟩ | ⟨h1, h2⟩
      · rw [if_pos h1, h2]
        simp only [Option.bind_some]
        rw [if_pos hsz, hst, hq]
      · rw [if_neg h1, h2]
        simp only [Option.bind_some]
        rw [if_pos hsz, hst, hq]
    · by_cases c10 : u < 10
      · have h0 : u / 10 = 0 := by omega
        have e : Lib.decDigits u = [UInt8.ofNat (48 + u)] := by rw [Lib.decDigits, dif_pos c10]
        rw [h0, show u % 10 = u from by omega, e]
        refine Ev.step (f := fun _ => some ⟨((if x0 < 0 then [45] else []) ++ ([UInt8.ofNat (48 + u)] ++ l)).toArray⟩) (fun k => ?_) (Ev.now _)
        have hz : ((if neg then -((0 : Nat) : Int) else ((0 : Nat) : Int)) = 0) = True := by cases neg <;> simp
        simp only [spec_FormatInt.l0, hz, if_true]
        by_cases cn : x0 < 0
        · rw [if_pos cn, if_pos cn, if_pos (by rw [ba_size]; simp; omega)]
          rw [show (⟨#[45]⟩ : ByteArray) = ⟨([45] : List UInt8).toArray⟩ from rfl, ba_append]
          rfl
        · rw [if_neg cn, if_neg cn]
          rfl
      · have e : Lib.decDigits u = Lib.decDigits (u / 10) ++ [UInt8.ofNat (48 + u % 10)] := by rw [Lib.decDigits, dif_neg c10]
        have hp : u / 10 < 10 ^ j := by rw [Nat.pow_succ] at h2; omega
        have hi := ih (u / 10) (UInt8.ofNat (48 + u % 10) :: l) (by omega) hp (by simp; omega) (by omega) (fun _ => by omega)
        rw [e, List.append_assoc, List.singleton_append]
        exact hi
theorem spec_FormatInt_ev (a : Int) (h0 : -9223372036854775808 ≤ a) (h1 : a ≤ 9223372036854775807) : Ev (fun k => spec_FormatInt.f k a) ⟨(Lib.itoa a).toArray⟩ := by
  unfold spec_FormatInt.f
  by_cases c : a = 0
  · subst c
    simp only [if_true]
    have e : Lib.itoa 0 = [48] := by
      unfold Lib.itoa
      rw [if_neg (by decide), Lib.decDigits, dif_pos (by decide)]
      rfl
    rw [e]
    exact Ev.now _
  · simp only [if_neg c]
    have hp : (10 : Nat) ^ 19 = 10000000000000000000 := by decide
    by_cases cn : a < 0
    · have h := fmt_round a true 19 a.natAbs [] (by omega) (by rw [hp]; omega) (by simp) (by omega) (fun h => by cases h)
      rw [if_pos rfl, if_pos cn, List.append_nil] at h
      rw [show -(a.natAbs : Int) = a from by omega] at h
      have e : Lib.itoa a = [45] ++ Lib.decDigits a.natAbs := by unfold Lib.itoa; rw [if_pos cn]; rfl
      rw [e]
      exact h
    · have h := fmt_round a false 19 a.natAbs [] (by omega) (by rw [hp]; omega) (by simp) (by omega) (fun _ => by omega)
      rw [if_neg (by decide), if_neg cn, List.append_nil, List.nil_append] at h
      rw [show (a.natAbs : Int) = a from by omega] at h
      have e : Lib.itoa a = Lib.decDigits a.natAbs := by unfold Lib.itoa; rw [if_neg cn]; congr 1; omega
      rw [e]
      exact h
theorem impl_FormatInt_is (a : Int) (h0 : -9223372036854775808 ≤ a) (h1 : a ≤ 9223372036854775807) : impl_FormatInt.f a = some ⟨(Lib.itoa a).toArray⟩ := by
  unfold impl_FormatInt.f
  rw [if_pos h0, if_pos h1]

theorem impl_InRange_is (a b c : Int) : impl_InRange.f a b c = some (decide (b ≤ a ∧ a ≤ c)) := by
  unfold impl_InRange.f
  by_cases h : b ≤ a <;> simp [h]

def pIend (s : ByteArray) (o : Option Nat) : Int × Bool := match o with
  | none => (0, false)
  | some n => if (n : Int) > 1000000000000 then (0, false) else if (⟨(Lib.itoa n).toArray⟩ : ByteArray).toList = s.toList then ((n : Int), true) else (0, false)
def pI (s : ByteArray) : Int × Bool := if 1 ≤ s.size ∧ s.size ≤ 13 then pIend s (Lib.decFrom 0 s.data.toList) else (0, false)
theorem decDigits_digit (u : Nat) : ∀ x ∈ Lib.decDigits u, 48 ≤ x.toNat ∧ x.toNat ≤ 57 := by
  induction u using Nat.strongRecOn with
  | _ u ih =>
    intro x hx
    by_cases h : u < 10
    · rw [Lib.decDigits, dif_pos h] at hx
      simp only [List.mem_cons, List.not_mem_nil, or_false] at hx
      subst hx
      rw [UInt8.toNat_ofNat']
      omega
    · rw [Lib.decDigits, dif_neg h] at hx
      rcases List.mem_append.1 hx with hx | hx
      · exact ih (u / 10) (by omega) x hx
      · simp only [List.mem_cons, List.not_mem_nil, or_false] at hx
        subst hx
        rw [UInt8.toNat_ofNat']
        omega
theorem itoa_first (n : Nat) (b : UInt8) (r : List UInt8) (hb : ¬ (48 ≤ b.toNat ∧ b.toNat ≤ 57)) : Lib.itoa n ≠ b :: r := by
  intro h
  have e : Lib.itoa (n : Int) = Lib.decDigits n := by unfold Lib.itoa; rw [if_neg (by omega)]; congr 1
  rw [e] at h
  exact hb (decDigits_digit n b (by rw [h]; simp))
theorem impl_ParseInt_is (s : ByteArray) : impl_ParseInt.f s = some (pI s) := by
  unfold impl_ParseInt.f pI
  by_cases c : (s.size : Int) > 13
  · rw [if_pos c, if_neg (by omega)]
  · rw [if_neg c]
    have hlen := data_length s
    cases hl : s.data.toList with
    | nil =>
      rw [hl] at hlen
      simp only [Lib.atoi]
      rw [if_neg (by simp at hlen; omega)]
    | cons b r =>
      rw [hl, List.length_cons] at hlen
      rw [if_pos (by omega)]
      have big : ∀ m : Nat, Lib.decFrom 0 (b :: r) = some m → m < 10 ^ (r.length + 1) := fun m hm => by have := Lib.decFrom_lt (b :: r) 0 m hm; simpa using this
      have e13 : (10 : Nat) ^ 13 = 10000000000000 := by decide
      have sgn : ∀ (m : Nat), Lib.decNat r = some m → m < 10000000000000 := fun m hm => by
        have hd : Lib.decFrom 0 r = some m := by
          unfold Lib.decNat at hm
          split at hm
          · cases hm
          · exact hm
        have h1 := Lib.decFrom_lt r 0 m hd
        have hp : 10 ^ r.length ≤ 10 ^ 13 := Nat.pow_le_pow_right (by decide) (by omega)
        omega
      have hne : ∀ n : Nat, ¬ (48 ≤ b.toNat ∧ b.toNat ≤ 57) → ¬ (⟨(Lib.itoa n).toArray⟩ : ByteArray).toList = s.toList := by
        intro n hb h
        rw [ByteArray.toList_eq, ByteArray.toList_eq, hl] at h
        exact itoa_first n b r hb (by simpa using h)
      by_cases c45 : b = 45
      · subst c45
        have e : Lib.decFrom 0 ((45 : UInt8) :: r) = none := rfl
        rw [e]
        simp only [Lib.atoi, beq_self_eq_true, if_true, pIend]
        cases hm : Lib.decNat r with
        | none => rfl
        | some m =>
          have hb := sgn m hm
          simp only [Option.map_some, impl_InRange_is, Option.bind_some]
          by_cases c0 : m = 0
          · subst c0
            simp only [impl_FormatInt_is (-((0 : Nat) : Int)) (by omega) (by omega), Option.bind_some]
            have hz := hne 0 (by decide)
            have e0 : (-((0 : Nat) : Int)) = ((0 : Nat) : Int) := rfl
            rw [e0, if_neg hz]
            simp
          · simp only [show ((0 : Int) ≤ -(m : Int) ∧ -(m : Int) ≤ 1000000000000) = False from by simp only [eq_iff_iff, iff_false]; omega, decide_false, Bool.false_eq_true, if_false]
      · by_cases c43 : b = 43
        · subst c43
          have e : Lib.decFrom 0 ((43 : UInt8) :: r) = none := rfl
          rw [e]
          have e1 : Lib.atoi ((43 : UInt8) :: r) = (Lib.decNat r).map fun (m : Nat) => (m : Int) := rfl
          rw [e1]
          simp only [pIend]
          cases hm : Lib.decNat r with
          | none => rfl
          | some m =>
            have hb := sgn m hm
            simp only [Option.map_some, impl_InRange_is, Option.bind_some, impl_FormatInt_is (m : Int) (by omega) (by omega)]
            have hz := hne m (by decide)
            rw [if_neg hz]
            simp
        · have e1 : Lib.atoi (b :: r) = (Lib.decFrom 0 (b :: r)).map fun (m : Nat) => (m : Int) := by
            simp only [Lib.atoi, Lib.decNat, List.isEmpty_cons, Bool.false_eq_true, if_false]
            rw [if_neg (by simpa using c45), if_neg (by simpa using c43)]
          rw [e1]
          cases hm : Lib.decFrom 0 (b :: r) with
          | none => rfl
          | some m =>
            have hb := big m hm
            have hp : 10 ^ (r.length + 1) ≤ 10 ^ 13 := Nat.pow_le_pow_right (by decide) (by omega)
            simp only [Option.map_some, impl_InRange_is, Option.bind_some, impl_FormatInt_is (m : Int) (by omega) (by omega), pIend]
            by_cases cm : (m : Int) > 1000000000000
            · simp only [show ((0 : Int) ≤ (m : Int) ∧ (m : Int) ≤ 1000000000000) = False from by simp only [eq_iff_iff, iff_false]; omega, decide_false, Bool.false_eq_true, if_false, if_pos cm]
            · simp only [show ((0 : Int) ≤ (m : Int) ∧ (m : Int) ≤ 1000000000000) = True from by simp only [eq_iff_iff, iff_true]; omega, decide_true, if_true, if_neg cm]
              by_cases ct : (⟨(Lib.itoa m).toArray⟩ : ByteArray).toList = s.toList
              · rw [if_pos ct, if_pos ct]
              · rw [if_neg ct, if_neg ct]

theorem set_take_succ {α : Type} (d : α) (o l : List α) (n : Nat) (ho : o.length = l.length) (hn : n < l.length) (ht : o.take n = l.take n) : (o.set n (l.getD n d)).take (n + 1) = l.take (n + 1) := by
  apply List.ext_getElem?
  intro j
  have hj := congrArg (fun t => t[j]?) ht
  simp only [List.getElem?_take] at hj ⊢
  by_cases h1 : j < n
  · rw [if_pos h1, if_pos h1] at hj
    rw [if_pos (by omega), if_pos (by omega), List.getElem?_set_ne (by omega)]
    exact hj
  · by_cases h2 : j = n
    · subst h2
      rw [if_pos (by omega), if_pos (by omega), List.getElem?_set_self (by omega), List.getElem?_eq_getElem hn, List.getD_eq_getElem?_getD, List.getElem?_eq_getElem hn]
      rfl
    · rw [if_neg (by omega), if_neg (by omega)]
theorem take_all {α : Type} {o l : List α} (n : Nat) (ho : o.length = l.length) (hn : l.length ≤ n) (ht : o.take n = l.take n) : o = l := by
  rw [List.take_of_length_le (by omega), List.take_of_length_le (by omega)] at ht
  exact ht

def hgo (d : Int) (l : List Int) : Int := l.foldl (fun d v => (d * 1000003 + v % 2147483647 + 13) % 2147483647) d
def hashOf (l : List Int) : Int := hgo 11 l
def khash (a : Int) (l : List Int) : Int := hashOf ([a] ++ l ++ [a])
theorem hgo_range (l : List Int) : ∀ d, 0 ≤ d → d < 2147483647 → 0 ≤ hgo d l ∧ hgo d l < 2147483647 := by
  induction l with
  | nil => intro d h1 h2; exact ⟨h1, h2⟩
  | cons v l ih => intro d h1 h2; exact ih ((d * 1000003 + v % 2147483647 + 13) % 2147483647) (by omega) (by omega)
theorem khash_range (a : Int) (l : List Int) : 0 ≤ khash a l ∧ khash a l < 2147483647 := hgo_range _ 11 (by omega) (by omega)
theorem drop_rd (l : List Int) (i : Int) (h0 : 0 ≤ i) (h1 : i < l.length) : l.drop i.toNat = rd l i :: l.drop (i + 1).toNat := by
  rw [show (i + 1).toNat = i.toNat + 1 from by omega, List.drop_eq_getElem_cons (by omega)]
  congr 1
  simp [rd, List.getD_eq_getElem?_getD, List.getElem?_eq_getElem (show i.toNat < l.length by omega)]
theorem hash_round (d v : Int) (h1 : 0 ≤ d) (h2 : d < 2147483647) : Int.tmod (wrap64 ((wrap64 ((wrap64 (d * 1000003)) + v % 2147483647)) + 13)) 2147483647 = (d * 1000003 + v % 2147483647 + 13) % 2147483647 := by
  rw [wrapS (x := d * 1000003) (by omega) (by omega), wrapS (x := d * 1000003 + v % 2147483647) (by omega) (by omega), wrapS (by omega) (by omega), Int.tmod_eq_emod_of_nonneg (by omega)]

theorem and255 (y : Int) : 0 ≤ Go.bits .and .i64 y 255 ∧ Go.bits .and .i64 y 255 ≤ 255 := by
  simp only [Go.bits, BitVec.toNat_and]
  have h : (BitVec.ofInt IntKind.i64.bits y).toNat &&& (BitVec.ofInt IntKind.i64.bits 255).toNat ≤ 255 := by
    have e : (BitVec.ofInt IntKind.i64.bits 255).toNat = 255 := by decide
    rw [e]
    exact Nat.and_le_right
  rw [IntKind.wrap_i64]
  omega
theorem l1Byte_ex (b : List Int) (i h : Int) (hi : 0 ≤ i) (hb : b.length ≤ 1048576) : ∃ x i' h', spec_l1Byte.f b i h = some (x, i', h') ∧ (0 ≤ x ∧ x ≤ 255) ∧ 0 ≤ i' := by
  unfold spec_l1Byte.f
  by_cases c : i < (b.length : Int)
  · rw [if_pos c, if_pos hi]
    exact ⟨_, _, _, rfl, and255 _, by rw [wrapS (by omega) (by omega)]; omega⟩
  · rw [if_neg c]
    exact ⟨_, _, _, rfl, and255 _, hi⟩

theorem l1Below_ex (b : List Int) (i h n : Int) (hi : 0 ≤ i) (hb : b.length ≤ 1048576) : ∃ x i' h', spec_l1Below.f b i h n = some (x, i', h') ∧ (n ≤ 0 → x = 0) ∧ (0 < n → 0 ≤ x ∧ x < n) ∧ 0 ≤ i' := by
  unfold spec_l1Below.f
  by_cases c : n ≤ 0
  · rw [if_pos c]
    exact ⟨_, _, _, rfl, fun _ => rfl, fun h => by omega, hi⟩
  · rw [if_neg c]
    have fin : ∀ v : Int, 0 ≤ v → 0 ≤ Int.tmod v n ∧ Int.tmod v n < n := by
      intro v hv
      rw [Int.tmod_eq_emod_of_nonneg hv]
      exact ⟨Int.emod_nonneg _ (by omega), Int.emod_lt_of_pos _ (by omega)⟩
    obtain ⟨x, i1, h1, e1, b1, g1⟩ := l1Byte_ex b i h hi hb
    by_cases c2 : n ≤ 256
    · rw [if_pos c2, e1]
      simp only [Option.bind_some]
      rw [if_neg (by omega)]
      exact ⟨_, _, _, rfl, fun h => absurd h c, fun _ => fin x b1.1, g1⟩
    · rw [if_neg c2, e1]
      obtain ⟨y, i2, h2, e2, b2, g2⟩ := l1Byte_ex b i1 h1 g1 hb
      obtain ⟨z, i3, h3, e3, b3, g3⟩ := l1Byte_ex b i2 h2 g2 hb
      simp only [Option.bind_some, e2, e3]
      rw [if_neg (by omega)]
      refine ⟨_, _, _, rfl, fun h => absurd h c, fun _ => fin _ ?_, g3⟩
      rw [wrapS (x := x * 65536) (by omega) (by omega), wrapS (x := y * 256) (by omega) (by omega), wrapS (x := x * 65536 + y * 256) (by omega) (by omega), wrapS (by omega) (by omega)]
      omega

theorem l1Int_ex (b : List Int) (i h : Int) (l : List Int) (hl : 0 < l.length) (hi : 0 ≤ i) (hb : b.length ≤ 1048576) : ∃ x i' h', spec_l1Int.f b i h l = some (x, i', h') ∧ x ∈ l ∧ 0 ≤ i' := by
  unfold spec_l1Int.f
  obtain ⟨x, i1, h1, e1, _, b1, g1⟩ := l1Below_ex b i h (l.length : Int) hi hb
  have b1 := b1 (by omega)
  rw [e1]
  simp only [Option.bind_some]
  rw [if_pos b1.1, if_pos b1.2]
  refine ⟨_, _, _, rfl, ?_, g1⟩
  simp only [rd, List.getD_eq_getElem?_getD, List.getElem?_eq_getElem (show x.toNat < l.length by omega), Option.getD_some]
  exact List.getElem_mem _

theorem l1Num_ex (b : List Int) (i h : Int) (hi : 0 ≤ i) (hb : b.length ≤ 1048576) : ∃ x i' h', spec_l1Num.f b i h = some (x, i', h') ∧ (0 ≤ x ∧ x ≤ 1000000000000) ∧ 0 ≤ i' := by
  unfold spec_l1Num.f
  obtain ⟨c, i1, h1, e1, _, b1, g1⟩ := l1Below_ex b i h 4 hi hb
  rw [e1]
  simp only [Option.bind_some]
  by_cases c0 : c = 0
  · obtain ⟨x, i2, h2, e2, _, b2, g2⟩ := l1Below_ex b i1 h1 2000 g1 hb
    have b2 := b2 (by omega)
    rw [if_pos c0, e2]
    exact ⟨_, _, _, rfl, by omega, g2⟩
  · rw [if_neg c0]
    by_cases c1 : c = 1
    · obtain ⟨x, i2, h2, e2, m2, g2⟩ := l1Int_ex b i1 h1 [0, 1, 127, 128, 2147483646, 2147483647, 1000000000000] (by simp) g1 hb
      rw [if_pos c1, e2]
      refine ⟨_, _, _, rfl, ?_, g2⟩
      simp at m2
      dsimp only
      omega
    · rw [if_neg c1]
      by_cases c2 : c = 2
      · obtain ⟨x, i2, h2, e2, _, b2, g2⟩ := l1Below_ex b i1 h1 1000000 g1 hb
        obtain ⟨y, i3, h3, e3, _, b3, g3⟩ := l1Below_ex b i2 h2 1000000 g2 hb
        have b2 := b2 (by omega)
        have b3 := b3 (by omega)
        have u : x * y ≤ 999999 * 999999 := Int.mul_le_mul (by omega) (by omega) b3.1 (by omega)
        have v : 0 ≤ x * y := Int.mul_nonneg b2.1 b3.1
        rw [if_pos c2, e2]
        simp only [Option.bind_some, e3]
        refine ⟨_, _, _, rfl, ?_, g3⟩
        rw [wrapS (by omega) (by omega)]
        omega
      · obtain ⟨x, i2, h2, e2, _, b2, g2⟩ := l1Below_ex b i1 h1 20 g1 hb
        have b2 := b2 (by omega)
        rw [if_neg c2, e2]
        exact ⟨_, _, _, rfl, by omega, g2⟩

theorem l1Once_ex (b : List Int) (i h n : Int) (hi : 0 ≤ i) (hb : b.length ≤ 1048576) : ∃ (x : Bool) (i' h' : Int), spec_l1Once.f b i h n = some (x, i', h') ∧ 0 ≤ i' := by
  unfold spec_l1Once.f
  obtain ⟨x, i1, h1, e1, _, _, g1⟩ := l1Below_ex b i h n hi hb
  rw [e1]
  exact ⟨_, _, _, rfl, g1⟩

theorem l1Raw_ex (b : List Int) (i h : Int) (hi : 0 ≤ i) (hb : b.length ≤ 1048576) : ∃ x i' h', spec_l1Raw.f b i h = some (x, i', h') ∧ (-9223372036854775808 ≤ x ∧ x ≤ 9223372036854775807) ∧ 0 ≤ i' := by
  unfold spec_l1Raw.f spec_l1Odd.f
  obtain ⟨c, i1, h1, e1, g1⟩ := l1Once_ex b i h 2 hi hb
  rw [e1]
  simp only [Option.bind_some]
  cases c with
  | true =>
    obtain ⟨x, i2, h2, e2, m2, g2⟩ := l1Int_ex b i1 h1 [-1, 0, 1, 2, 255, 256, 65535, 2147483647, 2147483648, 4294967295, 4294967296, -2147483648, 9223372036854775807, -9223372036854775808] (by simp) g1 hb
    simp only [if_true, e2, Option.bind_some]
    refine ⟨_, _, _, rfl, ?_, g2⟩
    simp at m2
    omega
  | false =>
    obtain ⟨x, i2, h2, e2, m2, g2⟩ := l1Int_ex b i1 h1 [-1, 1000000000000, 1000000000001] (by simp) g1 hb
    simp only [Bool.false_eq_true, if_false, e2, Option.bind_some]
    refine ⟨_, _, _, rfl, ?_, g2⟩
    simp at m2
    omega
theorem l1One_ex (b : List Int) (i h : Int) (hi : 0 ≤ i) (hb : b.length ≤ 1048576) : ∃ x i' h', spec_l1One.f b i h = some (x, i', h') ∧ (-9223372036854775808 ≤ x ∧ x ≤ 9223372036854775807) ∧ 0 ≤ i' := by
  unfold spec_l1One.f
  obtain ⟨c, i1, h1, e1, g1⟩ := l1Once_ex b i h 6 hi hb
  rw [e1]
  simp only [Option.bind_some]
  cases c with
  | true =>
    obtain ⟨x, i2, h2, e2, b2, g2⟩ := l1Raw_ex b i1 h1 g1 hb
    simp only [if_true, e2, Option.bind_some]
    exact ⟨_, _, _, rfl, b2, g2⟩
  | false =>
    obtain ⟨x, i2, h2, e2, b2, g2⟩ := l1Num_ex b i1 h1 g1 hb
    simp only [Bool.false_eq_true, if_false, e2, Option.bind_some]
    exact ⟨_, _, _, rfl, by omega, g2⟩

theorem l1New_ex (l : List Int) (hl : l.length ≤ 1048576) : ∃ h, Ev (fun k => spec_l1New.f k l) (l, 0, h) := by
  have key : ∀ (d : Nat) (x i : Int), 0 ≤ i → i + d = l.length → ∃ h, Ev (fun k => spec_l1New.l0 k l x i) (l, 0, h) := by
    intro d
    induction d with
    | zero =>
      intro x i h0 hi
      refine ⟨x, Ev.step (f := fun _ => some (l, 0, x)) (fun k => ?_) (Ev.now _)⟩
      simp only [spec_l1New.l0]
      rw [if_neg (by omega)]
    | succ d ih =>
      intro x i h0 hi
      by_cases c : i < 4000
      · obtain ⟨h, hh⟩ := ih (Go.bits .and .i64 (wrap64 ((wrap64 ((wrap64 (x * 137)) + (wrap64 (rd l i)))) + 11)) 1073741823) (i + 1) (by omega) (by omega)
        refine ⟨h, Ev.step (fun k => ?_) hh⟩
        simp only [spec_l1New.l0]
        rw [if_pos (by omega), if_pos c, if_pos h0, wrapS (x := i + 1) (by omega) (by omega)]
      · refine ⟨x, Ev.step (f := fun _ => some (l, 0, x)) (fun k => ?_) (Ev.now _)⟩
        simp only [spec_l1New.l0]
        rw [if_pos (by omega), if_neg c]
  unfold spec_l1New.f
  exact key l.length _ 0 (by omega) (by omega)

theorem l1Str_ex (b : List Int) (i h : Int) (l : List ByteArray) (hl : 0 < l.length) (hi : 0 ≤ i) (hb : b.length ≤ 1048576) : ∃ x i' h', spec_l1Str.f b i h l = some (x, i', h') ∧ x ∈ l ∧ 0 ≤ i' := by
  unfold spec_l1Str.f
  obtain ⟨x, i1, h1, e1, _, b1, g1⟩ := l1Below_ex b i h (l.length : Int) hi hb
  have b1 := b1 (by omega)
  rw [e1]
  simp only [Option.bind_some]
  rw [if_pos b1.1, if_pos b1.2]
  refine ⟨_, _, _, rfl, ?_, g1⟩
  simp only [rdOf, List.getD_eq_getElem?_getD, List.getElem?_eq_getElem (show x.toNat < l.length by omega), Option.getD_some]
  exact List.getElem_mem _

theorem mod_is (p q : Int) (h1 : 1 ≤ q) (h2 : q ≤ 1000000000000) : Int.tmod (wrap64 ((Int.tmod p q) + q)) q = p % q := by
  have e := Int.tmod_def p q
  have l1 := Int.lt_tmod_of_pos p (show 0 < q by omega)
  have l2 := Int.tmod_lt_of_pos p (show 0 < q by omega)
  rw [wrapS (by omega) (by omega), Int.tmod_eq_emod_of_nonneg (by omega), Int.add_emod_right, e, Int.sub_mul_emod_self_left]

theorem impl_Mod_is (p q : Int) (h1 : 1 ≤ q) (h2 : q ≤ 1000000000000) : impl_Mod.f p q = some (p % q) := by
  unfold impl_Mod.f
  simp only [impl_InRange_is, h1, h2, and_self, decide_true, Option.bind_some, if_true]
  rw [if_neg (by omega), mod_is p q h1 h2]

theorem decFrom_append (a : List UInt8) : ∀ (acc : Nat) (b : List UInt8), Lib.decFrom acc (a ++ b) = (Lib.decFrom acc a).bind fun n => Lib.decFrom n b := by
  induction a with
  | nil => intro acc b; rfl
  | cons x a ih =>
    intro acc b
    simp only [List.cons_append, Lib.decFrom]
    cases Lib.digitVal x with
    | none => rfl
    | some d => exact ih _ _
theorem digitVal_of (d : Nat) (h : d < 10) : Lib.digitVal (UInt8.ofNat (48 + d)) = some d := by
  have e : (UInt8.ofNat (48 + d)).toNat = 48 + d := by rw [UInt8.toNat_ofNat']; omega
  unfold Lib.digitVal
  rw [e, if_pos (by omega)]
  congr 1
  omega
theorem decFrom_decDigits (u : Nat) : Lib.decFrom 0 (Lib.decDigits u) = some u := by
  induction u using Nat.strongRecOn with
  | _ u ih =>
    by_cases h : u < 10
    · rw [Lib.decDigits, dif_pos h]
      simp only [Lib.decFrom, digitVal_of u h]
      congr 1
      omega
    · rw [Lib.decDigits, dif_neg h, decFrom_append, ih (u / 10) (by omega)]
      simp only [Option.bind_some, Lib.decFrom, digitVal_of (u % 10) (by omega)]
      congr 1
      omega
theorem decDigits_len (j : Nat) : ∀ u : Nat, u < 10 ^ (j + 1) → 1 ≤ (Lib.decDigits u).length ∧ (Lib.decDigits u).length ≤ j + 1 := by
  induction j with
  | zero =>
    intro u h
    rw [Lib.decDigits, dif_pos (by simpa using h)]
    simp
  | succ j ih =>
    intro u h
    by_cases c : u < 10
    · rw [Lib.decDigits, dif_pos c]
      simp
    · rw [Lib.decDigits, dif_neg c, List.length_append]
      have := ih (u / 10) (by rw [Nat.pow_succ] at h; omega)
      simp
      omega
theorem pI_itoa (m : Int) (h0 : -9223372036854775808 ≤ m) (h1 : m ≤ 9223372036854775807) : pI (⟨(Lib.itoa m).toArray⟩ : ByteArray) = if 0 ≤ m ∧ m ≤ 1000000000000 then (m, true) else (0, false) := by
  unfold pI
  rw [ba_size]
  by_cases cn : m < 0
  · rw [if_neg (show ¬ (0 ≤ m ∧ m ≤ 1000000000000) from by omega)]
    have e : Lib.itoa m = 45 :: Lib.decDigits m.natAbs := by unfold Lib.itoa; rw [if_pos cn]
    rw [e]
    split
    · rfl
    · rfl
  · obtain ⟨u, rfl⟩ : ∃ u : Nat, m = u := ⟨m.toNat, by omega⟩
    have e : Lib.itoa (u : Int) = Lib.decDigits u := by unfold Lib.itoa; rw [if_neg cn]; congr 1
    have hdata : (⟨(Lib.itoa (u : Int)).toArray⟩ : ByteArray).data.toList = Lib.decDigits u := by rw [e]
    rw [hdata, decFrom_decDigits, e]
    by_cases c : (u : Int) ≤ 1000000000000
    · have e13 : (10 : Nat) ^ (12 + 1) = 10000000000000 := by decide
      have hl := decDigits_len 12 u (by rw [e13]; omega)
      rw [if_pos (by omega), if_pos (show (0 : Int) ≤ (u : Int) ∧ (u : Int) ≤ 1000000000000 from by omega)]
      simp only [pIend]
      rw [if_neg (by omega), e, if_pos rfl]
    · rw [if_neg (show ¬ ((0 : Int) ≤ (u : Int) ∧ (u : Int) ≤ 1000000000000) from by omega)]
      split
      · simp only [pIend]
        rw [if_pos (by omega)]
      · rfl
theorem pI_back (s : ByteArray) (h : (pI s).2 = true) : (0 ≤ (pI s).1 ∧ (pI s).1 ≤ 1000000000000) ∧ (⟨(Lib.itoa (pI s).1).toArray⟩ : ByteArray).toList = s.toList := by
  unfold pI at h ⊢
  by_cases c : 1 ≤ s.size ∧ s.size ≤ 13
  · rw [if_pos c] at h ⊢
    cases ho : Lib.decFrom 0 s.data.toList with
    | none => rw [ho] at h; simp [pIend] at h
    | some n =>
      rw [ho] at h
      simp only [pIend] at h ⊢
      by_cases c1 : (n : Int) > 1000000000000
      · rw [if_pos c1] at h; simp at h
      · rw [if_neg c1] at h ⊢
        by_cases c2 : (⟨(Lib.itoa (n : Int)).toArray⟩ : ByteArray).toList = s.toList
        · rw [if_pos c2]
          exact ⟨by constructor <;> simp <;> omega, c2⟩
        · rw [if_neg c2] at h; simp at h
  · rw [if_neg c] at h; simp at h
theorem DrawParse_ex (l : List Int) (hl : l.length ≤ 1048576) : ∃ s : ByteArray, Ev (fun k => spec_DrawParseInt.f k l) s := by
  obtain ⟨h, hn⟩ := l1New_ex l hl
  obtain ⟨c, i1, h1, e1, g1⟩ := l1Once_ex l 0 h 2 (by omega) hl
  cases c with
  | true =>
    obtain ⟨s, i2, h2, e2, hs, g2⟩ := l1Str_ex l i1 h1 [(⟨#[]⟩ : ByteArray), (⟨#[48]⟩ : ByteArray), (⟨#[48, 48]⟩ : ByteArray), (⟨#[45, 49]⟩ : ByteArray), (⟨#[48, 49]⟩ : ByteArray), (⟨#[55]⟩ : ByteArray), (⟨#[49, 48, 48, 48, 48, 48, 48, 48, 48, 48, 48, 48, 48]⟩ : ByteArray), (⟨#[49, 48, 48, 48, 48, 48, 48, 48, 48, 48, 48, 48, 49]⟩ : ByteArray), (⟨#[57, 57, 57, 57, 57, 57, 57, 57, 57, 57, 57, 57, 57, 57]⟩ : ByteArray), (⟨#[49, 120]⟩ : ByteArray), (⟨#[32, 49]⟩ : ByteArray)] (by decide) g1 hl
    refine ⟨s, ?_⟩
    unfold spec_DrawParseInt.f
    refine Ev.bind hn ?_
    simp only [e1, e2, Option.bind_some, if_true]
    exact Ev.now _
  | false =>
    obtain ⟨n, i2, h2, e2, b2, g2⟩ := l1Num_ex l i1 h1 g1 hl
    refine ⟨⟨(Lib.itoa n).toArray⟩, ?_⟩
    unfold spec_DrawParseInt.f
    refine Ev.bind hn ?_
    simp only [e1, e2, Option.bind_some, Bool.false_eq_true, if_false]
    exact Ev.bind (spec_FormatInt_ev n (by omega) (by omega)) (Ev.now _)
theorem DrawFormat_ex (l : List Int) (hl : l.length ≤ 1048576) : ∃ m : Int, Ev (fun k => spec_DrawFormatInt.f k l) m ∧ (-9223372036854775808 ≤ m ∧ m ≤ 9223372036854775807) := by
  obtain ⟨h, hn⟩ := l1New_ex l hl
  obtain ⟨n, i2, h2, e2, b2, g2⟩ := l1One_ex l 0 h (by omega) hl
  refine ⟨n, ?_, b2⟩
  unfold spec_DrawFormatInt.f
  refine Ev.bind hn ?_
  simp only [e2, Option.bind_some]
  exact Ev.now _
theorem DrawCeil_ex (l : List Int) (hl : l.length ≤ 1048576) : ∃ a b : Int, Ev (fun k => spec_DrawCeilDiv.f k l) (a, b) ∧ (-9223372036854775808 ≤ a ∧ a ≤ 9223372036854775807) ∧ (-9223372036854775808 ≤ b ∧ b ≤ 9223372036854775807) := by
  obtain ⟨h, hn⟩ := l1New_ex l hl
  obtain ⟨a, i2, h2, e2, b2, g2⟩ := l1One_ex l 0 h (by omega) hl
  obtain ⟨b, i3, h3, e3, b3, g3⟩ := l1One_ex l i2 h2 g2 hl
  refine ⟨a, b, ?_, b2, b3⟩
  unfold spec_DrawCeilDiv.f
  refine Ev.bind hn ?_
  simp only [e2, e3, Option.bind_some]
  exact Ev.now _
theorem ints_j2 (a b q : Int) (hb : 1 ≤ b) (h : (a < 0 ∨ a > 1000000000000) ∧ q = 0 ∨ (0 ≤ a ∧ a ≤ 1000000000000) ∧ a ≤ q * b ∧ q * b - a < b ∧ q * b ≤ 9000000000000) : Ev (fun k => laws_FnIntegers.j2 k a b q false) true := by
  refine Ev.step (f := fun _ => some true) (fun k => ?_) (Ev.now _)
  simp only [laws_FnIntegers.j2, Bool.false_eq_true, if_false]
  rcases h with ⟨h1, rfl⟩ | ⟨h1, h2, h3, h4⟩
  · by_cases c : a < 0
    · rw [if_pos c]; rfl
    · rw [if_neg c, if_pos (by omega)]; rfl
  · rw [if_neg (by omega), if_neg (by omega), wrapS (x := q * b) (by omega) (by omega), if_pos (by omega), wrapS (by omega) (by omega), decide_eq_true (by omega)]
theorem ints_tail (a b : Int) (ha : -9223372036854775808 ≤ a ∧ a ≤ 9223372036854775807) : ∃ q r : Int, impl_CeilDiv.f a b = some q ∧ impl_Mod.f a b = some r ∧ Ev (fun k => laws_FnIntegers.j0 k a b q r false) true := by
  by_cases hb : 1 ≤ b ∧ b ≤ 1000000000000
  · have hm := impl_Mod_is a b hb.1 hb.2
    have r0 : 0 ≤ a % b := Int.emod_nonneg _ (by omega)
    have r1 : a % b < b := Int.emod_lt_of_pos _ (by omega)
    have hz : Int.tmod (wrap64 ((Int.tmod a b) - a % b)) b = 0 := by
      have l1 := Int.lt_tmod_of_pos a (show 0 < b by omega)
      have l2 := Int.tmod_lt_of_pos a (show 0 < b by omega)
      rw [wrapS (by omega) (by omega)]
      refine Int.tmod_eq_zero_of_dvd ?_
      have e1 := Int.tmod_def a b
      have e2 := Int.emod_def a b
      rw [e1, e2]
      exact ⟨a / b - Int.tdiv a b, by rw [Int.mul_sub]; omega⟩
    have tail : ∀ q : Int, ((a < 0 ∨ a > 1000000000000) ∧ q = 0 ∨ (0 ≤ a ∧ a ≤ 1000000000000) ∧ a ≤ q * b ∧ q * b - a < b ∧ q * b ≤ 9000000000000) → Ev (fun k => laws_FnIntegers.j0 k a b q (a % b) false) true := by
      intro q hq
      refine Ev.step (f := fun k => laws_FnIntegers.j1 k a b q (a % b) false) (fun k => ?_) ?_
      · simp only [laws_FnIntegers.j0, Bool.false_eq_true, if_false]
        rw [if_neg (by omega), decide_eq_false (by omega)]
      · refine Ev.step (f := fun k => laws_FnIntegers.j2 k a b q false) (fun k => ?_) (ints_j2 a b q hb.1 hq)
        simp only [laws_FnIntegers.j1, Bool.false_eq_true, if_false]
        rw [if_neg (by omega), if_neg (by omega), if_neg (by omega), hz]
        rfl
    by_cases hA : 0 ≤ a ∧ a ≤ 1000000000000
    · have hd := Int.emod_add_mul_ediv (a + b - 1) b
      have d0 : 0 ≤ (a + b - 1) % b := Int.emod_nonneg _ (by omega)
      have d1 : (a + b - 1) % b < b := Int.emod_lt_of_pos _ (by omega)
      have q0 : 0 ≤ (a + b - 1) / b := Int.ediv_nonneg (by omega) (by omega)
      have q1 : (a + b - 1) / b ≤ a + b - 1 := Int.ediv_le_self _ (by omega)
      have hc : impl_CeilDiv.f a b = some ((a + b - 1) / b) := by
        unfold impl_CeilDiv.f
        simp only [impl_InRange_is, hA, hb, and_self, decide_true, Option.bind_some, if_true]
        rw [if_neg (by omega), wrapS (x := a + b) (by omega) (by omega), wrapS (x := a + b - 1) (by omega) (by omega), Int.tdiv_eq_ediv_of_nonneg (by omega), wrapS (by omega) (by omega)]
      refine ⟨_, _, hc, hm, tail _ (.inr ⟨hA, ?_⟩)⟩
      rw [Int.mul_comm]
      omega
    · have hc : impl_CeilDiv.f a b = some 0 := by
        unfold impl_CeilDiv.f
        simp only [impl_InRange_is, hA, decide_false, Option.bind_some, Bool.false_eq_true, if_false]
      exact ⟨_, _, hc, hm, tail _ (.inl ⟨by omega, rfl⟩)⟩
  · have hm : impl_Mod.f a b = some 0 := by
      unfold impl_Mod.f
      simp only [impl_InRange_is, hb, decide_false, Option.bind_some, Bool.false_eq_true, if_false]
    have hc : impl_CeilDiv.f a b = some 0 := by
      unfold impl_CeilDiv.f
      simp only [impl_InRange_is, hb, decide_false, Option.bind_some, Bool.false_eq_true, if_false]
      split <;> rfl
    refine ⟨_, _, hc, hm, ?_⟩
    refine Ev.step (f := fun k => laws_FnIntegers.j1 k a b 0 0 true) (fun k => ?_) ?_
    · simp only [laws_FnIntegers.j0, Bool.false_eq_true, if_false]
      by_cases c : b < 1
      · rw [if_pos c]
      · rw [if_neg c, decide_eq_true (by omega)]
    · refine Ev.step (f := fun _ => some true) (fun k => ?_) (Ev.now _)
      simp only [laws_FnIntegers.j1, if_true]
      rfl
theorem FnIntegers : laws_FnIntegers.Pure := by
  intro l _ _ _
  apply Ev.rounds
  unfold laws_FnIntegers.f laws_big.f
  simp only [Option.bind_some]
  by_cases h1 : (l.length : Int) > 1048576
  · simp only [decide_eq_true h1, if_true]; exact Ev.now _
  simp only [decide_eq_false h1, Bool.false_eq_true, if_false]
  obtain ⟨s, hE⟩ := DrawParse_ex l (by omega)
  obtain ⟨m, hF, bm⟩ := DrawFormat_ex l (by omega)
  obtain ⟨a, b, hC, ba, bb⟩ := DrawCeil_ex l (by omega)
  obtain ⟨q, r, eq, er, hT⟩ := ints_tail a b ba
  have hback := pI_back s
  have hitoa := pI_itoa m bm.1 bm.2
  refine Ev.bind (hE) ?_
  simp only [impl_ParseInt_is, Option.bind_some]
  refine Ev.bind (hF) ?_
  simp only [impl_FormatInt_is m bm.1 bm.2, impl_ParseInt_is, Option.bind_some]
  refine Ev.bind (hC) ?_
  simp only [eq, er, Option.bind_some]
  have hX : Ev (fun k => (if m ≥ 0 then (if ((pI (⟨(Lib.itoa m).toArray⟩ : ByteArray)).2 != (decide (m ≤ 1000000000000))) = true then (laws_FnIntegers.j0 k a b q r true) else (if (pI (⟨(Lib.itoa m).toArray⟩ : ByteArray)).2 = true then (laws_FnIntegers.j0 k a b q r ((pI (⟨(Lib.itoa m).toArray⟩ : ByteArray)).1 != m)) else (laws_FnIntegers.j0 k a b q r false))) else (if ((pI (⟨(Lib.itoa m).toArray⟩ : ByteArray)).2 != false) = true then (laws_FnIntegers.j0 k a b q r true) else (if (pI (⟨(Lib.itoa m).toArray⟩ : ByteArray)).2 = true then (laws_FnIntegers.j0 k a b q r ((pI (⟨(Lib.itoa m).toArray⟩ : ByteArray)).1 != m)) else (laws_FnIntegers.j0 k a b q r false))))) true := by
    rw [hitoa]
    by_cases c : 0 ≤ m ∧ m ≤ 1000000000000
    · simp only [if_pos c, if_pos (show m ≥ 0 from c.1), decide_eq_true c.2, bne_self_eq_false, Bool.false_eq_true, if_false, if_true]
      exact hT
    · by_cases c0 : m ≥ 0
      · simp only [if_neg c, if_pos c0, decide_eq_false (show ¬ m ≤ 1000000000000 from by omega), bne_self_eq_false, Bool.false_eq_true, if_false]
        exact hT
      · simp only [if_neg c, if_neg c0, bne_self_eq_false, Bool.false_eq_true, if_false]
        exact hT
  by_cases c : (pI s).2 = true
  · obtain ⟨hr, ht⟩ := hback c
    simp only [if_pos c, impl_FormatInt_is (pI s).1 (by omega) (by omega), Option.bind_some, if_pos ht]
    exact hX
  · simp only [if_neg c]
    exact hX

end Go.Proofs.YtgdakjleighhcaaDoor.Pure
