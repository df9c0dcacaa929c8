/- FnExactDeriveFromString answers true, for each number and each text. -/
import Derived.Test.YtgdakjleighhcaaQFnExactDeriveFromStringx1
set_option linter.unusedVariables false
set_option linter.unusedSimpArgs false
namespace Go.Proofs.Ytgdakjleighhcaa.Pure
open Go.RowKit Go.Proofs.Ytgdakjleighhcaa.QFnExactDeriveFromString Go.Proofs.YtgdakjleighhcaaW.PrintWords Go.Proofs.YtgdakjleighhcaaW.PrintLast Go.Proofs.YtgdakjleighhcaaW.PrintMore

theorem wrapS {x : Int} (h1 : -9223372036854775808 ≤ x) (h2 : x ≤ 9223372036854775807) : wrap64 x = x := by
  unfold wrap64
  omega
theorem i64wf {x : Int} (h : (Lit.int .i64 x).wf = true) : -9223372036854775808 ≤ x ∧ x ≤ 9223372036854775807 := by
  have h1 : (decide (IntKind.i64.min ≤ x) && decide (x ≤ IntKind.i64.max)) = true := h
  rw [Bool.and_eq_true, decide_eq_true_eq, decide_eq_true_eq] at h1
  exact h1
theorem u8wf {x : Int} (h : (Lit.int .u8 x).wf = true) : 0 ≤ x ∧ x ≤ 255 := by
  have h1 : (decide (IntKind.u8.min ≤ x) && decide (x ≤ IntKind.u8.max)) = true := h
  rw [Bool.and_eq_true, decide_eq_true_eq, decide_eq_true_eq] at h1
  exact h1
/-- What is told of some number of rounds is told of any three together. -/
theorem evNow {α : Type} {g : Option α} {r : α} (h : g = some r) : Ev (fun _ => g) r := ⟨0, fun _ _ => h⟩
theorem one_add_neg (n : Nat) : ((1 : Int) + (n : Int) < 0) = False := by
  simp only [eq_iff_iff, iff_false]
  omega

theorem set_take_succ {α : Type} (d : α) (o l : List α) (n : Nat) (ho : o.length = l.length) (hn : n < l.length) (ht : o.take n = l.take n) : (o.set n (l.getD n d)).take (n + 1) = l.take (n + 1) := by
  apply List.ext_getElem?
  intro j
  have hj := congrArg (fun t => t[j]?) ht
  simp only [List.getElem?_take] at hj ⊢
  by_cases h1 : j < n
  · rw [if_pos h1, if_pos h1] at hj
    rw [if_pos (by omega), if_pos (by omega), List.getElem?_set_ne (by omega)]
    exact hj
  · by_cases h2 : j = n
    · subst h2
      rw [if_pos (by omega), if_pos (by omega), List.getElem?_set_self (by omega), List.getElem?_eq_getElem hn, List.getD_eq_getElem?_getD, List.getElem?_eq_getElem hn]
      rfl
    · rw [if_neg (by omega), if_neg (by omega)]
theorem take_all {α : Type} {o l : List α} (n : Nat) (ho : o.length = l.length) (hn : l.length ≤ n) (ht : o.take n = l.take n) : o = l := by
  rw [List.take_of_length_le (by omega), List.take_of_length_le (by omega)] at ht
  exact ht

def hgo (d : Int) (l : List Int) : Int := l.foldl (fun d v => (d * 1000003 + v % 2147483647 + 13) % 2147483647) d
def hashOf (l : List Int) : Int := hgo 11 l
def khash (a : Int) (l : List Int) : Int := hashOf ([a] ++ l ++ [a])
theorem hgo_range (l : List Int) : ∀ d, 0 ≤ d → d < 2147483647 → 0 ≤ hgo d l ∧ hgo d l < 2147483647 := by
  induction l with
  | nil => intro d h1 h2; exact ⟨h1, h2⟩
  | cons v l ih => intro d h1 h2; exact ih ((d * 1000003 + v % 2147483647 + 13) % 2147483647) (by omega) (by omega)
theorem khash_range (a : Int) (l : List Int) : 0 ≤ khash a l ∧ khash a l < 2147483647 := hgo_range _ 11 (by omega) (by omega)
theorem drop_rd (l : List Int) (i : Int) (h0 : 0 ≤ i) (h1 : i < l.length) : l.drop i.toNat = rd l i :: l.drop (i + 1).toNat := by
  rw [show (i + 1).toNat = i.toNat + 1 from by omega, List.drop_eq_getElem_cons (by omega)]
  congr 1
  simp [rd, List.getD_eq_getElem?_getD, List.getElem?_eq_getElem (show i.toNat < l.length by omega)]
theorem hash_round (d v : Int) (h1 : 0 ≤ d) (h2 : d < 2147483647) : Int.tmod (wrap64 ((wrap64 ((wrap64 (d * 1000003)) + v % 2147483647)) + 13)) 2147483647 = (d * 1000003 + v % 2147483647 + 13) % 2147483647 := by
  rw [wrapS (x := d * 1000003) (by omega) (by omega), wrapS (x := d * 1000003 + v % 2147483647) (by omega) (by omega), wrapS (by omega) (by omega), Int.tmod_eq_emod_of_nonneg (by omega)]

theorem impl_InRange_is (a b c : Int) : impl_InRange.f a b c = some (decide (b ≤ a ∧ a ≤ c)) := by
  unfold impl_InRange.f
  by_cases h : b ≤ a <;> simp [h]

theorem mod_is (p q : Int) (h1 : 1 ≤ q) (h2 : q ≤ 1000000000000) : Int.tmod (wrap64 ((Int.tmod p q) + q)) q = p % q := by
  have e := Int.tmod_def p q
  have l1 := Int.lt_tmod_of_pos p (show 0 < q by omega)
  have l2 := Int.tmod_lt_of_pos p (show 0 < q by omega)
  rw [wrapS (by omega) (by omega), Int.tmod_eq_emod_of_nonneg (by omega), Int.add_emod_right, e, Int.sub_mul_emod_self_left]

theorem impl_Mod_is (p q : Int) (h1 : 1 ≤ q) (h2 : q ≤ 1000000000000) : impl_Mod.f p q = some (p % q) := by
  unfold impl_Mod.f
  simp only [impl_InRange_is, h1, h2, and_self, decide_true, Option.bind_some, if_true]
  rw [if_neg (by omega), mod_is p q h1 h2]

theorem impl_Hash_ev (l : List Int) (hl : l.length ≤ 70368744177664) : Ev (fun k => impl_Hash.f k l) (hashOf l) := by
  have key : ∀ (n : Nat) (d i : Int), 0 ≤ i → i + n = l.length → 0 ≤ d → d < 2147483647 → Ev (fun k => impl_Hash.l0 k d l (l.length : Int) i) (hgo d (l.drop i.toNat)) := by
    intro n
    induction n with
    | zero =>
      intro d i h0 hi hd hd2
      refine Ev.step (f := fun _ => some d) (fun k => ?_) ?_
      · simp only [impl_Hash.l0]
        rw [if_neg (by omega)]
      · rw [List.drop_eq_nil_of_le (by omega)]
        exact Ev.now _
    | succ n ih =>
      intro d i h0 hi hd hd2
      rw [drop_rd l i h0 (by omega)]
      refine Ev.step (f := fun k => impl_Hash.l0 k ((d * 1000003 + (rd l i) % 2147483647 + 13) % 2147483647) l (l.length : Int) (i + 1)) (fun k => ?_) (ih _ _ (by omega) (by omega) (by omega) (by omega))
      simp only [impl_Hash.l0]
      rw [if_pos (by omega), if_pos h0, if_pos (by omega), impl_Mod_is _ _ (by omega) (by omega)]
      simp only [Option.bind_some]
      rw [hash_round d _ hd hd2, wrapS (by omega) (by omega)]
  exact key l.length 11 0 (by omega) (by omega) (by omega) (by omega)

theorem impl_KeyedHash_ev (a : Int) (l : List Int) (hl : l.length ≤ 4194304) : Ev (fun k => impl_KeyedHash.f k a l) (khash a l) := by
  unfold impl_KeyedHash.f
  simp only [Option.bind_some]
  simp only [if_pos (show [a].length + l.length < 17592186044416 from by simp; omega), if_pos (show ([a] ++ l).length < 17592186044416 from by simp; omega)]
  refine Ev.bind (impl_Hash_ev _ (by simp; omega)) ?_
  exact Ev.now _

theorem spec_l1In_is (a b c : Int) : spec_l1In.f a b c = some (decide (b ≤ a ∧ a ≤ c)) := by
  unfold spec_l1In.f
  by_cases h : b ≤ a <;> simp [h]

theorem spec_Mod_is (p q : Int) (h1 : 1 ≤ q) (h2 : q ≤ 1000000000000) : spec_Mod.f p q = some (p % q) := by
  unfold spec_Mod.f
  simp only [spec_l1In_is, h1, h2, and_self, decide_true, Option.bind_some, if_true]
  rw [if_neg (by omega), mod_is p q h1 h2]

theorem spec_Hash_ev (l : List Int) (hl : l.length ≤ 70368744177664) : Ev (fun k => spec_Hash.f k l) (hashOf l) := by
  have key : ∀ (n : Nat) (d i : Int), 0 ≤ i → i + n = l.length → 0 ≤ d → d < 2147483647 → Ev (fun k => spec_Hash.l0 k l d i) (hgo d (l.drop i.toNat)) := by
    intro n
    induction n with
    | zero =>
      intro d i h0 hi hd hd2
      refine Ev.step (f := fun _ => some d) (fun k => ?_) ?_
      · simp only [spec_Hash.l0]
        rw [if_neg (by omega)]
      · rw [List.drop_eq_nil_of_le (by omega)]
        exact Ev.now _
    | succ n ih =>
      intro d i h0 hi hd hd2
      rw [drop_rd l i h0 (by omega)]
      refine Ev.step (f := fun k => spec_Hash.l0 k l ((d * 1000003 + (rd l i) % 2147483647 + 13) % 2147483647) (i + 1)) (fun k => ?_) (ih _ _ (by omega) (by omega) (by omega) (by omega))
      simp only [spec_Hash.l0]
      rw [if_pos (by omega), if_pos h0, spec_Mod_is _ _ (by omega) (by omega)]
      simp only [Option.bind_some]
      rw [hash_round d _ hd hd2, wrapS (by omega) (by omega)]
  exact key l.length 11 0 (by omega) (by omega) (by omega) (by omega)

theorem spec_KeyedHash_ev (a : Int) (l : List Int) (hl : l.length ≤ 4194304) : Ev (fun k => spec_KeyedHash.f k a l) (khash a l) := by
  unfold spec_KeyedHash.f
  simp only [Option.bind_some]
  simp only [if_pos (show [a].length + l.length < 17592186044416 from by simp; omega), if_pos (show ([a] ++ l).length < 17592186044416 from by simp; omega)]
  refine Ev.bind (spec_Hash_ev _ (by simp; omega)) ?_
  exact Ev.now _

theorem spec_BytesToInts_ev (l : List Int) (hl : l.length ≤ 8388608) (hb : ∀ x ∈ l, 0 ≤ x ∧ x ≤ 255) : Ev (fun k => spec_BytesToInts.f k l) ((l.length : Int) :: l) := by
  have key : ∀ (n : Nat) (o : List Int) (i : Int), 0 ≤ i → i + n = l.length → o.length ≤ 8388608 + i.toNat → Ev (fun k => spec_BytesToInts.l0 k l o i) (o ++ l.drop i.toNat) := by
    intro n
    induction n with
    | zero =>
      intro o i h0 hi ho
      rw [List.drop_eq_nil_of_le (by omega), List.append_nil]
      refine Ev.step (f := fun _ => some o) (fun k => ?_) (Ev.now _)
      simp only [spec_BytesToInts.l0]
      rw [if_neg (by omega)]
    | succ n ih =>
      intro o i h0 hi ho
      have hx := hb (rd l i) (by
        simp only [rd, List.getD_eq_getElem?_getD, List.getElem?_eq_getElem (show i.toNat < l.length by omega), Option.getD_some]
        exact List.getElem_mem _)
      have hi2 := ih (o ++ [rd l i]) (i + 1) (by omega) (by omega) (by simp; omega)
      rw [List.append_assoc, List.singleton_append, ← drop_rd l i h0 (by omega)] at hi2
      refine Ev.step (f := fun k => spec_BytesToInts.l0 k l (o ++ [rd l i]) (i + 1)) (fun k => ?_) hi2
      simp only [spec_BytesToInts.l0]
      rw [if_pos (by omega), if_pos h0, if_pos (by omega), wrapS (x := rd l i) (by omega) (by omega), wrapS (by omega) (by omega)]
  exact key l.length [(l.length : Int)] 0 (by omega) (by omega) (by simp)
theorem impl_BytesToInts_ev (l : List Int) (hl : l.length ≤ 8388608) (hb : ∀ x ∈ l, 0 ≤ x ∧ x ≤ 255) : Ev (fun k => impl_BytesToInts.f k l) ((l.length : Int) :: l) := by
  have key : ∀ (n : Nat) (o : List Int) (i : Int), 0 ≤ i → i + n = l.length → o.length ≤ 8388608 + i.toNat → Ev (fun k => impl_BytesToInts.l0 k o l (l.length : Int) i) (o ++ l.drop i.toNat) := by
    intro n
    induction n with
    | zero =>
      intro o i h0 hi ho
      rw [List.drop_eq_nil_of_le (by omega), List.append_nil]
      refine Ev.step (f := fun _ => some o) (fun k => ?_) (Ev.now _)
      simp only [impl_BytesToInts.l0]
      rw [if_neg (by omega)]
    | succ n ih =>
      intro o i h0 hi ho
      have hx := hb (rd l i) (by
        simp only [rd, List.getD_eq_getElem?_getD, List.getElem?_eq_getElem (show i.toNat < l.length by omega), Option.getD_some]
        exact List.getElem_mem _)
      have hi2 := ih (o ++ [rd l i]) (i + 1) (by omega) (by omega) (by simp; omega)
      rw [List.append_assoc, List.singleton_append, ← drop_rd l i h0 (by omega)] at hi2
      refine Ev.step (f := fun k => impl_BytesToInts.l0 k (o ++ [rd l i]) l (l.length : Int) (i + 1)) (fun k => ?_) hi2
      simp only [impl_BytesToInts.l0]
      rw [if_pos (by omega), if_pos h0, if_pos (by omega), if_pos (by omega), wrapS (x := rd l i) (by omega) (by omega), wrapS (by omega) (by omega)]
  exact key l.length [(l.length : Int)] 0 (by omega) (by omega) (by simp)

theorem bytesOf_byte (s : ByteArray) : ∀ x ∈ bytesOf s, 0 ≤ x ∧ x ≤ 255 := by
  intro x hx
  simp only [bytesOf, List.mem_map] at hx
  obtain ⟨b, _, rfl⟩ := hx
  have := b.toNat_lt
  omega
theorem spec_DeriveFromString_ev (a : Int) (s : ByteArray) (hs : s.size ≤ 1048576) : Ev (fun k => spec_DeriveFromString.f k a s) (if khash a (((bytesOf s).length : Int) :: bytesOf s) = 0 then 1 else khash a (((bytesOf s).length : Int) :: bytesOf s)) := by
  have hl := bytesOf_length s
  have hb := bytesOf_byte s
  unfold spec_DeriveFromString.f
  rw [← hl] at hs
  simp only [← hl, if_pos (show (bytesOf s).length ≤ 140737488351232 from by omega)]
  generalize bytesOf s = l at hs hb ⊢
  refine Ev.bind (spec_BytesToInts_ev l (by omega) hb) ?_
  refine Ev.bind (spec_KeyedHash_ev a ((l.length : Int) :: l) (by simp; omega)) ?_
  have hk := khash_range a ((l.length : Int) :: l)
  generalize khash a ((l.length : Int) :: l) = t at hk ⊢
  unfold spec_Max.f
  by_cases c : t = 0
  · subst c
    simp only [if_neg (show ¬ (0 : Int) > 1 from by decide), if_true]
    exact Ev.now _
  · rw [if_neg c]
    by_cases c1 : t > 1
    · simp only [if_pos c1]; exact Ev.now _
    · simp only [if_neg c1]
      rw [show t = 1 from by omega]
      exact Ev.now _
theorem impl_DeriveFromString_ev (a : Int) (s : ByteArray) (hs : s.size ≤ 1048576) : Ev (fun k => impl_DeriveFromString.f k a s) (if khash a (((bytesOf s).length : Int) :: bytesOf s) = 0 then 1 else khash a (((bytesOf s).length : Int) :: bytesOf s)) := by
  have hl := bytesOf_length s
  have hb := bytesOf_byte s
  unfold impl_DeriveFromString.f
  rw [← hl] at hs
  simp only [← hl, if_pos (show (bytesOf s).length ≤ 140737488351232 from by omega)]
  generalize bytesOf s = l at hs hb ⊢
  refine Ev.bind (impl_BytesToInts_ev l (by omega) hb) ?_
  refine Ev.bind (impl_KeyedHash_ev a ((l.length : Int) :: l) (by simp; omega)) ?_
  generalize khash a ((l.length : Int) :: l) = t
  by_cases c : t = 0
  · simp only [if_pos c]; exact Ev.now _
  · simp only [if_neg c]; exact Ev.now _
theorem FnExactDeriveFromString : laws_FnExactDeriveFromString.Pure := by
  intro a s _ _
  apply Ev.rounds
  unfold laws_FnExactDeriveFromString.f
  by_cases h1 : (s.size : Int) > 1048576
  · simp only [if_pos h1]; exact Ev.now _
  simp only [if_neg h1]
  refine Ev.bind (spec_DeriveFromString_ev a s (by omega)) ?_
  refine Ev.bind (impl_DeriveFromString_ev a s (by omega)) ?_
  simp only [if_true, if_false, Bool.false_eq_true, Bool.not_true, Bool.not_false, bne_self_eq_false, eq_self, ite_true, ite_false, reduceIte]
  exact Ev.now _

end Go.Proofs.Ytgdakjleighhcaa.Pure
