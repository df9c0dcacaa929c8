/- FnExactDecrypt answers true, for each number and each list of bytes. -/
import Derived.Test.YtcdiajjadgbngaaPFnExactDecryptx3
import Derived.Test.YtcdiajjadgbngaaWSized
set_option linter.unusedVariables false
set_option linter.unusedSimpArgs false
namespace Go.Proofs.Ytcdiajjadgbngaa.PrintWords
open Go.ChangeShapes Go.WideShapes
/-- The printed row names the word so; it lies one namespace beside. -/
theorem sized_ints {H : Type} {enc : TypeId × Value → H} {P : Program} {W : World} {base : Nat} {spare : Nat → Bool} {held : Bool} {t e : TypeId} {k : IntKind} {a : Option Addr} {len cap : Nat} {d : DataW H} {ps : List MemPlace} {ts : List TypeId} {ds : List (DataW H)} {j : Nat}
    (hsz : (DataW.weightsEach P ts ds).all (· ≤ reachBytes) = true) (ht : ts[j]? = some t) (hd : ds[j]? = some d) (hu : P.underlying t = some (.slice e)) (he : P.underlying e = some (.int k)) (hc : P.cellsOf e = 1) {B : Nat} (hB : P.bytesOf e = B)
    (h : DataW.Trod enc P W base spare held t (.slice a len cap) d ps) : len * B ≤ 140737488351232 :=
  Go.Proofs.YtcdiajjadgbngaaW.PrintWords.sized_ints hsz ht hd hu he hc hB h
end Go.Proofs.Ytcdiajjadgbngaa.PrintWords
namespace Go.Proofs.Ytcdiajjadgbngaa.Pure
open Go.RowKit Go.Proofs.Ytcdiajjadgbngaa.PFnExactDecrypt Go.Proofs.YtcdiajjadgbngaaW.PrintWords Go.Proofs.YtcdiajjadgbngaaW.PrintLast Go.Proofs.YtcdiajjadgbngaaW.PrintMore

theorem wrapS {x : Int} (h1 : -9223372036854775808 ≤ x) (h2 : x ≤ 9223372036854775807) : wrap64 x = x := by
  unfold wrap64
  omega
theorem i64wf {x : Int} (h : (Lit.int .i64 x).wf = true) : -9223372036854775808 ≤ x ∧ x ≤ 9223372036854775807 := by
  have h1 : (decide (IntKind.i64.min ≤ x) && decide (x ≤ IntKind.i64.max)) = true := h
  rw [Bool.and_eq_true, decide_eq_true_eq, decide_eq_true_eq] at h1
  exact h1
theorem u8wf {x : Int} (h : (Lit.int .u8 x).wf = true) : 0 ≤ x ∧ x ≤ 255 := by
  have h1 : (decide (IntKind.u8.min ≤ x) && decide (x ≤ IntKind.u8.max)) = true := h
  rw [Bool.and_eq_true, decide_eq_true_eq, decide_eq_true_eq] at h1
  exact h1
/-- What is told of some number of rounds is told of any three together. -/
theorem evNow {α : Type} {g : Option α} {r : α} (h : g = some r) : Ev (fun _ => g) r := ⟨0, fun _ _ => h⟩
theorem one_add_neg (n : Nat) : ((1 : Int) + (n : Int) < 0) = False := by
  simp only [eq_iff_iff, iff_false]
  omega

theorem set_take_succ {α : Type} (d : α) (o l : List α) (n : Nat) (ho : o.length = l.length) (hn : n < l.length) (ht : o.take n = l.take n) : (o.set n (l.getD n d)).take (n + 1) = l.take (n + 1) := by
  apply List.ext_getElem?
  intro j
  have hj := congrArg (fun t => t[j]?) ht
  simp only [List.getElem?_take] at hj ⊢
  by_cases h1 : j < n
  · rw [if_pos h1, if_pos h1] at hj
    rw [if_pos (by omega), if_pos (by omega), List.getElem?_set_ne (by omega)]
    exact hj
  · by_cases h2 : j = n
    · subst h2
      rw [if_pos (by omega), if_pos (by omega), List.getElem?_set_self (by omega), List.getElem?_eq_getElem hn, List.getD_eq_getElem?_getD, List.getElem?_eq_getElem hn]
      rfl
    · rw [if_neg (by omega), if_neg (by omega)]
theorem take_all {α : Type} {o l : List α} (n : Nat) (ho : o.length = l.length) (hn : l.length ≤ n) (ht : o.take n = l.take n) : o = l := by
  rw [List.take_of_length_le (by omega), List.take_of_length_le (by omega)] at ht
  exact ht

def hgo (d : Int) (l : List Int) : Int := l.foldl (fun d v => (d * 1000003 + v % 2147483647 + 13) % 2147483647) d
def hashOf (l : List Int) : Int := hgo 11 l
def khash (a : Int) (l : List Int) : Int := hashOf ([a] ++ l ++ [a])
theorem hgo_range (l : List Int) : ∀ d, 0 ≤ d → d < 2147483647 → 0 ≤ hgo d l ∧ hgo d l < 2147483647 := by
  induction l with
  | nil => intro d h1 h2; exact ⟨h1, h2⟩
  | cons v l ih => intro d h1 h2; exact ih ((d * 1000003 + v % 2147483647 + 13) % 2147483647) (by omega) (by omega)
theorem khash_range (a : Int) (l : List Int) : 0 ≤ khash a l ∧ khash a l < 2147483647 := hgo_range _ 11 (by omega) (by omega)
theorem drop_rd (l : List Int) (i : Int) (h0 : 0 ≤ i) (h1 : i < l.length) : l.drop i.toNat = rd l i :: l.drop (i + 1).toNat := by
  rw [show (i + 1).toNat = i.toNat + 1 from by omega, List.drop_eq_getElem_cons (by omega)]
  congr 1
  simp [rd, List.getD_eq_getElem?_getD, List.getElem?_eq_getElem (show i.toNat < l.length by omega)]
theorem hash_round (d v : Int) (h1 : 0 ≤ d) (h2 : d < 2147483647) : Int.tmod (wrap64 ((wrap64 ((wrap64 (d * 1000003)) + v % 2147483647)) + 13)) 2147483647 = (d * 1000003 + v % 2147483647 + 13) % 2147483647 := by
  rw [wrapS (x := d * 1000003) (by omega) (by omega), wrapS (x := d * 1000003 + v % 2147483647) (by omega) (by omega), wrapS (by omega) (by omega), Int.tmod_eq_emod_of_nonneg (by omega)]

/-- The stream's byte at a place, added or taken away. -/
def shOne (key s i c : Int) : Int := (c + s * (khash key [i] % 256)) % 256
def shf (key s : Int) : Int → List Int → List Int
  | _, [] => []
  | i, c :: l => shOne key s i c :: shf key s (i + 1) l
theorem shf_length (key s : Int) (l : List Int) : ∀ i, (shf key s i l).length = l.length := by
  induction l with
  | nil => intro i; rfl
  | cons c l ih => intro i; simp [shf, ih]
theorem shf_byte (key s : Int) (l : List Int) : ∀ i, ∀ x ∈ shf key s i l, 0 ≤ x ∧ x ≤ 255 := by
  induction l with
  | nil => intro i x hx; simp [shf] at hx
  | cons c l ih =>
    intro i x hx
    simp only [shf, List.mem_cons] at hx
    rcases hx with h | h
    · rw [h]; unfold shOne; omega
    · exact ih _ x h
theorem rd_mem (l : List Int) (i : Int) (h0 : 0 ≤ i) (h1 : i < l.length) : rd l i ∈ l := by
  simp only [rd, List.getD_eq_getElem?_getD, List.getElem?_eq_getElem (show i.toNat < l.length by omega), Option.getD_some]
  exact List.getElem_mem _

theorem impl_InRange_is (a b c : Int) : impl_InRange.f a b c = some (decide (b ≤ a ∧ a ≤ c)) := by
  unfold impl_InRange.f
  by_cases h : b ≤ a <;> simp [h]

theorem mod_is (p q : Int) (h1 : 1 ≤ q) (h2 : q ≤ 1000000000000) : Int.tmod (wrap64 ((Int.tmod p q) + q)) q = p % q := by
  have e := Int.tmod_def p q
  have l1 := Int.lt_tmod_of_pos p (show 0 < q by omega)
  have l2 := Int.tmod_lt_of_pos p (show 0 < q by omega)
  rw [wrapS (by omega) (by omega), Int.tmod_eq_emod_of_nonneg (by omega), Int.add_emod_right, e, Int.sub_mul_emod_self_left]

theorem impl_Mod_is (p q : Int) (h1 : 1 ≤ q) (h2 : q ≤ 1000000000000) : impl_Mod.f p q = some (p % q) := by
  unfold impl_Mod.f
  simp only [impl_InRange_is, h1, h2, and_self, decide_true, Option.bind_some, if_true]
  rw [if_neg (by omega), mod_is p q h1 h2]

theorem impl_Hash_ev (l : List Int) (hl : l.length ≤ 70368744177664) : Ev (fun k => impl_Hash.f k l) (hashOf l) := by
  have key : ∀ (n : Nat) (d i : Int), 0 ≤ i → i + n = l.length → 0 ≤ d → d < 2147483647 → Ev (fun k => impl_Hash.l0 k d l (l.length : Int) i) (hgo d (l.drop i.toNat)) := by
    intro n
    induction n with
    | zero =>
      intro d i h0 hi hd hd2
      refine Ev.step (f := fun _ => some d) (fun k => ?_) ?_
      · simp only [impl_Hash.l0]
        rw [if_neg (by omega)]
      · rw [List.drop_eq_nil_of_le (by omega)]
        exact Ev.now _
    | succ n ih =>
      intro d i h0 hi hd hd2
      rw [drop_rd l i h0 (by omega)]
      refine Ev.step (f := fun k => impl_Hash.l0 k ((d * 1000003 + (rd l i) % 2147483647 + 13) % 2147483647) l (l.length : Int) (i + 1)) (fun k => ?_) (ih _ _ (by omega) (by omega) (by omega) (by omega))
      simp only [impl_Hash.l0]
      rw [if_pos (by omega), if_pos h0, if_pos (by omega), impl_Mod_is _ _ (by omega) (by omega)]
      simp only [Option.bind_some]
      rw [hash_round d _ hd hd2, wrapS (by omega) (by omega)]
  exact key l.length 11 0 (by omega) (by omega) (by omega) (by omega)

theorem impl_KeyedHash_ev (a : Int) (l : List Int) (hl : l.length ≤ 4194304) : Ev (fun k => impl_KeyedHash.f k a l) (khash a l) := by
  unfold impl_KeyedHash.f
  simp only [Option.bind_some]
  simp only [if_pos (show [a].length + l.length < 17592186044416 from by simp; omega), if_pos (show ([a] ++ l).length < 17592186044416 from by simp; omega)]
  refine Ev.bind (impl_Hash_ev _ (by simp; omega)) ?_
  exact Ev.now _

theorem impl_shifted_ev (key s : Int) (l : List Int) (hs : s = 1 ∨ s = -1) (hl : l.length ≤ 8388608) (hb : ∀ x ∈ l, 0 ≤ x ∧ x ≤ 255) : Ev (fun k => impl_shifted.f k key l s) (shf key s 0 l) := by
  have key0 : ∀ (n : Nat) (o : List Int) (i : Int), 0 ≤ i → i + n = l.length → o.length = i.toNat → Ev (fun k => impl_shifted.l0 k key s o l (l.length : Int) i) (o ++ shf key s i (l.drop i.toNat)) := by
    intro n
    induction n with
    | zero =>
      intro o i h0 hi ho
      rw [List.drop_eq_nil_of_le (by omega), shf, List.append_nil]
      refine Ev.step (f := fun _ => some o) (fun k => ?_) (Ev.now _)
      simp only [impl_shifted.l0]
      rw [if_neg (by omega)]
    | succ n ih =>
      intro o i h0 hi ho
      have hx := hb _ (rd_mem l i h0 (by omega))
      have hk := khash_range key [i]
      have hi2 := ih (o ++ [shOne key s i (rd l i)]) (i + 1) (by omega) (by omega) (by simp; omega)
      rw [List.append_assoc, List.singleton_append] at hi2
      rw [drop_rd l i h0 (by omega), shf]
      refine Ev.step (f := fun k => (impl_KeyedHash.f k key [i]).bind fun t => (if o.length < 140737488355328 then (impl_shifted.l0 k key s (o ++ [(wrap64 ((wrap64 (rd l i)) + (wrap64 (s * (Int.tmod t 256))))) % 256]) l (l.length : Int) (i + 1)) else none)) (fun k => ?_) (Ev.bind (impl_KeyedHash_ev key [i] (by simp)) ?_)
      · simp only [impl_shifted.l0]
        rw [if_pos (by omega), if_pos h0, if_pos (by omega), wrapS (x := i + 1) (by omega) (by omega)]
      · have e : (wrap64 ((wrap64 (rd l i)) + (wrap64 (s * (Int.tmod (khash key [i]) 256))))) % 256 = shOne key s i (rd l i) := by
          unfold shOne
          rw [Int.tmod_eq_emod_of_nonneg hk.1]
          rcases hs with rfl | rfl
          · rw [wrapS (x := rd l i) (by omega) (by omega), wrapS (x := 1 * (khash key [i] % 256)) (by omega) (by omega), wrapS (by omega) (by omega)]
          · rw [wrapS (x := rd l i) (by omega) (by omega), wrapS (x := -1 * (khash key [i] % 256)) (by omega) (by omega), wrapS (by omega) (by omega)]
        simp only [if_pos (show o.length < 140737488355328 from by omega), e]
        exact hi2
  exact key0 l.length [] 0 (by omega) (by omega) (by simp)

theorem impl_Decrypt_ev (key : Int) (l : List Int) (hl : l.length ≤ 8388608) (hb : ∀ x ∈ l, 0 ≤ x ∧ x ≤ 255) : Ev (fun k => impl_Decrypt.f k key l) (shf key (-1) 0 l) := by
  unfold impl_Decrypt.f
  exact Ev.bind (impl_shifted_ev key (-1) l (Or.inr rfl) hl hb) (Ev.now _)

theorem spec_l1In_is (a b c : Int) : spec_l1In.f a b c = some (decide (b ≤ a ∧ a ≤ c)) := by
  unfold spec_l1In.f
  by_cases h : b ≤ a <;> simp [h]

theorem spec_Mod_is (p q : Int) (h1 : 1 ≤ q) (h2 : q ≤ 1000000000000) : spec_Mod.f p q = some (p % q) := by
  unfold spec_Mod.f
  simp only [spec_l1In_is, h1, h2, and_self, decide_true, Option.bind_some, if_true]
  rw [if_neg (by omega), mod_is p q h1 h2]

theorem spec_Hash_ev (l : List Int) (hl : l.length ≤ 70368744177664) : Ev (fun k => spec_Hash.f k l) (hashOf l) := by
  have key : ∀ (n : Nat) (d i : Int), 0 ≤ i → i + n = l.length → 0 ≤ d → d < 2147483647 → Ev (fun k => spec_Hash.l0 k l d i) (hgo d (l.drop i.toNat)) := by
    intro n
    induction n with
    | zero =>
      intro d i h0 hi hd hd2
      refine Ev.step (f := fun _ => some d) (fun k => ?_) ?_
      · simp only [spec_Hash.l0]
        rw [if_neg (by omega)]
      · rw [List.drop_eq_nil_of_le (by omega)]
        exact Ev.now _
    | succ n ih =>
      intro d i h0 hi hd hd2
      rw [drop_rd l i h0 (by omega)]
      refine Ev.step (f := fun k => spec_Hash.l0 k l ((d * 1000003 + (rd l i) % 2147483647 + 13) % 2147483647) (i + 1)) (fun k => ?_) (ih _ _ (by omega) (by omega) (by omega) (by omega))
      simp only [spec_Hash.l0]
      rw [if_pos (by omega), if_pos h0, spec_Mod_is _ _ (by omega) (by omega)]
      simp only [Option.bind_some]
      rw [hash_round d _ hd hd2, wrapS (by omega) (by omega)]
  exact key l.length 11 0 (by omega) (by omega) (by omega) (by omega)

theorem spec_KeyedHash_ev (a : Int) (l : List Int) (hl : l.length ≤ 4194304) : Ev (fun k => spec_KeyedHash.f k a l) (khash a l) := by
  unfold spec_KeyedHash.f
  simp only [Option.bind_some]
  simp only [if_pos (show [a].length + l.length < 17592186044416 from by simp; omega), if_pos (show ([a] ++ l).length < 17592186044416 from by simp; omega)]
  refine Ev.bind (spec_Hash_ev _ (by simp; omega)) ?_
  exact Ev.now _

theorem spec_Decrypt_ev (key : Int) (l : List Int) (hl : l.length ≤ 8388608) (hb : ∀ x ∈ l, 0 ≤ x ∧ x ≤ 255) : Ev (fun k => spec_Decrypt.f k key l) (shf key (-1) 0 l) := by
  have key0 : ∀ (n : Nat) (o : List Int) (i : Int), 0 ≤ i → i + n = l.length → o.length = i.toNat → Ev (fun k => spec_Decrypt.l0 k key l o i) (o ++ shf key (-1) i (l.drop i.toNat)) := by
    intro n
    induction n with
    | zero =>
      intro o i h0 hi ho
      rw [List.drop_eq_nil_of_le (by omega), shf, List.append_nil]
      refine Ev.step (f := fun _ => some o) (fun k => ?_) (Ev.now _)
      simp only [spec_Decrypt.l0]
      rw [if_neg (by omega)]
    | succ n ih =>
      intro o i h0 hi ho
      have hx := hb _ (rd_mem l i h0 (by omega))
      have hk := khash_range key [i]
      have hi2 := ih (o ++ [shOne key (-1) i (rd l i)]) (i + 1) (by omega) (by omega) (by simp; omega)
      rw [List.append_assoc, List.singleton_append] at hi2
      rw [drop_rd l i h0 (by omega), shf]
      refine Ev.step (f := fun k => (spec_KeyedHash.f k key [i]).bind fun t => ((spec_Mod.f (wrap64 ((wrap64 (rd l i)) - (Int.tmod t 256))) 256).bind fun t122 => (if o.length < 140737488355328 then (spec_Decrypt.l0 k key l (o ++ [(t122) % 256]) (i + 1)) else none))) (fun k => ?_) (Ev.bind (spec_KeyedHash_ev key [i] (by simp)) ?_)
      · simp only [spec_Decrypt.l0]
        rw [if_pos (by omega), if_pos h0, wrapS (x := i + 1) (by omega) (by omega)]
      · have e : ((wrap64 ((wrap64 (rd l i)) - (Int.tmod (khash key [i]) 256))) % 256) % 256 = shOne key (-1) i (rd l i) := by
          unfold shOne
          rw [Int.tmod_eq_emod_of_nonneg hk.1, wrapS (x := rd l i) (by omega) (by omega), wrapS (by omega) (by omega)]
          omega
        simp only [spec_Mod_is _ 256 (by omega) (by omega), Option.bind_some, if_pos (show o.length < 140737488355328 from by omega), e]
        exact hi2
  exact key0 l.length [] 0 (by omega) (by omega) (by simp)

theorem laws_toByteS_ev (l : List Int) (hl : l.length ≤ 17592186044416) : Ev (fun k => laws_toByteS.f k l) l := by
  have key : ∀ (d : Nat) (o : List Int) (i : Int), 0 ≤ i → o.length = l.length → i + d = l.length → o.take i.toNat = l.take i.toNat → Ev (fun k => laws_toByteS.l0 k l o i) l := by
    intro d
    induction d with
    | zero =>
      intro o i h0 ho hi ht
      refine Ev.step (f := fun _ => some l) (fun k => ?_) (Ev.now _)
      simp only [laws_toByteS.l0]
      rw [if_neg (by omega), take_all i.toNat ho (by omega) ht]
    | succ d ih =>
      intro o i h0 ho hi ht
      refine Ev.step (f := fun k => laws_toByteS.l0 k l (o.set i.toNat (rd l i)) (i + 1)) (fun k => ?_) (ih _ _ (by omega) (by simpa using ho) (by omega) ?_)
      · simp only [laws_toByteS.l0]
        rw [if_pos (by omega), if_pos h0, if_pos (by omega), wrapS (by omega) (by omega)]
      · rw [show (i + 1).toNat = i.toNat + 1 from by omega]
        exact set_take_succ _ o l i.toNat ho (by omega) ht
  refine Ev.congr (f := fun k => laws_toByteS.l0 k l (List.replicate l.length 0) 0) (fun k => ?_) (key l.length _ 0 (by omega) (by simp) (by omega) (by simp))
  unfold laws_toByteS.f
  rw [if_pos (by omega), if_pos (by omega)]
  rfl

theorem laws_eqByteS_ev (l : List Int) (hl : l.length ≤ 281474976710656) : Ev (fun k => laws_eqByteS.f k l l) true := by
  have key : ∀ (d : Nat) (i : Int), 0 ≤ i → i + d = l.length → Ev (fun k => laws_eqByteS.l0 k l l i) true := by
    intro d
    induction d with
    | zero =>
      intro i h0 hi
      refine Ev.step (f := fun _ => some true) (fun k => ?_) (Ev.now _)
      simp only [laws_eqByteS.l0]
      rw [if_neg (by omega)]
    | succ d ih =>
      intro i h0 hi
      refine Ev.step (f := fun k => laws_eqByteS.l0 k l l (i + 1)) (fun k => ?_) (ih _ (by omega) (by omega))
      simp only [laws_eqByteS.l0]
      rw [if_pos (by omega), if_pos h0, if_pos (by omega), wrapS (by omega) (by omega)]
      simp
  refine Ev.congr (f := fun k => laws_eqByteS.l0 k l l 0) (fun k => ?_) (key l.length 0 (by omega) (by omega))
  unfold laws_eqByteS.f
  rw [if_pos rfl]



def markedByte (n : Nat) (a : Int) : List Int := (List.range n).map fun (j : Nat) => (a + j) % 256
theorem markedByte_length (n : Nat) (a : Int) : (markedByte n a).length = n := by simp [markedByte]
theorem markedByte_at (n : Nat) (a : Int) (j : Nat) (h : j < n) : (markedByte n a).getD j 0 = (a + j) % 256 := by
  simp [markedByte, List.getD_eq_getElem?_getD, h]
theorem laws_markByteS_ev (l : List Int) (a : Int) (ha : 0 ≤ a) (hl : a + l.length ≤ 4611686018427387904) : Ev (fun k => laws_markByteS.f k l a) (a + l.length, markedByte l.length a) := by
  have key : ∀ (d : Nat) (o : List Int) (x i : Int), 0 ≤ i → x = a + i → o.length = l.length → i + d = l.length → o.take i.toNat = (markedByte l.length a).take i.toNat → Ev (fun k => laws_markByteS.l0 k o x i) (a + l.length, markedByte l.length a) := by
    intro d
    induction d with
    | zero =>
      intro o x i h0 hx ho hi ht
      refine Ev.step (f := fun _ => some (a + l.length, markedByte l.length a)) (fun k => ?_) (Ev.now _)
      simp only [laws_markByteS.l0]
      have hm := markedByte_length l.length a
      rw [if_neg (by omega), take_all i.toNat (by omega) (by omega) ht, hx, show i = (l.length : Int) from by omega]
    | succ d ih =>
      intro o x i h0 hx ho hi ht
      have hm := markedByte_length l.length a
      have hat := markedByte_at l.length a i.toNat (by omega)
      rw [show (i.toNat : Int) = i from by omega, ← hx] at hat
      refine Ev.step (f := fun k => laws_markByteS.l0 k (o.set i.toNat ((markedByte l.length a).getD i.toNat 0)) (x + 1) (i + 1)) (fun k => ?_) (ih _ _ _ (by omega) (by omega) (by simpa using ho) (by omega) ?_)
      · simp only [laws_markByteS.l0]
        rw [if_pos (by omega), if_pos h0, wrapS (by omega) (by omega), wrapS (by omega) (by omega), hat]
      · rw [show (i + 1).toNat = i.toNat + 1 from by omega]
        exact set_take_succ 0 o _ i.toNat (by omega) (by omega) ht
  exact key l.length l a 0 (by omega) (by omega) rfl (by omega) (by simp)
theorem laws_heldByteS_ev (n : Nat) (a : Int) (ha : 0 ≤ a) (hl : a + n ≤ 4611686018427387904) : Ev (fun k => laws_heldByteS.f k (markedByte n a) a) (a + n) := by
  have hm := markedByte_length n a
  have key : ∀ (d : Nat) (x i : Int), 0 ≤ i → x = a + i → i + d = n → Ev (fun k => laws_heldByteS.l0 k (markedByte n a) x i) (a + n) := by
    intro d
    induction d with
    | zero =>
      intro x i h0 hx hi
      refine Ev.step (f := fun _ => some (a + n)) (fun k => ?_) (Ev.now _)
      simp only [laws_heldByteS.l0]
      rw [if_neg (by omega), hx, show i = (n : Int) from by omega]
    | succ d ih =>
      intro x i h0 hx hi
      refine Ev.step (f := fun k => laws_heldByteS.l0 k (markedByte n a) (x + 1) (i + 1)) (fun k => ?_) (ih _ _ (by omega) (by omega) (by omega))
      have hat : rd (markedByte n a) i = (markedByte n a).getD i.toNat 0 := rfl
      rw [markedByte_at n a i.toNat (by omega), show (i.toNat : Int) = i from by omega, ← hx] at hat
      simp only [laws_heldByteS.l0]
      rw [if_pos (by omega), if_pos h0, wrapS (by omega) (by omega), wrapS (by omega) (by omega), hat]
      simp
  exact key n a 0 (by omega) (by omega) (by omega)



theorem FnExactDecrypt : laws_FnExactDecrypt.Pure := by
  intro c a _ _ _ hb
  have hb := fun x hx => u8wf (hb x hx)
  apply Ev.rounds
  unfold laws_FnExactDecrypt.f
  by_cases h1 : (a.length : Int) > 1048576
  · simp only [if_pos h1]; exact Ev.now _
  simp only [if_neg h1]
  have hw := shf_length c (-1) a 0
  refine Ev.bind (laws_toByteS_ev a (by omega)) ?_
  refine Ev.bind (spec_Decrypt_ev c a (by omega) hb) ?_
  refine Ev.bind (laws_toByteS_ev a (by omega)) ?_
  refine Ev.bind (impl_Decrypt_ev c a (by omega) hb) ?_
  refine Ev.bind (laws_eqByteS_ev _ (by omega)) ?_
  simp only [if_true, if_false, Bool.false_eq_true, Bool.not_true, Bool.not_false, bne_self_eq_false, eq_self, ite_true, ite_false, reduceIte]
  refine Ev.bind (laws_toByteS_ev a (by omega)) ?_
  refine Ev.bind (laws_eqByteS_ev a (by omega)) ?_
  simp only [if_true, if_false, Bool.false_eq_true, Bool.not_true, Bool.not_false, bne_self_eq_false, eq_self, ite_true, ite_false, reduceIte]
  refine Ev.bind (laws_markByteS_ev a 1 (by omega) (by omega)) ?_
  simp only [one_add_neg, if_true, if_false, Bool.false_eq_true, Bool.not_true, Bool.not_false, bne_self_eq_false, eq_self, ite_true, ite_false, reduceIte]
  refine Ev.bind (laws_eqByteS_ev _ (by omega)) ?_
  simp only [if_true, if_false, Bool.false_eq_true, Bool.not_true, Bool.not_false, bne_self_eq_false, eq_self, ite_true, ite_false, reduceIte]
  refine Ev.step (g := fun k => laws_FnExactDecrypt.j0 k _ _ _ _ false) (fun k => by simp only [laws_FnExactDecrypt.j0]; rfl) ?_
  simp only [if_true, if_false, Bool.false_eq_true, Bool.not_true, Bool.not_false, bne_self_eq_false, eq_self, ite_true, ite_false, reduceIte]
  refine Ev.bind (laws_markByteS_ev _ 1 (by omega) (by omega)) ?_
  refine Ev.bind (laws_heldByteS_ev _ 1 (by omega) (by omega)) ?_
  simp only [one_add_neg, if_true, if_false, Bool.false_eq_true, Bool.not_true, Bool.not_false, bne_self_eq_false, eq_self, ite_true, ite_false, reduceIte]
  refine Ev.bind (laws_toByteS_ev a (by omega)) ?_
  refine Ev.bind (impl_Decrypt_ev c a (by omega) hb) ?_
  refine Ev.bind (laws_eqByteS_ev _ (by omega)) ?_
  simp only [if_true, if_false, Bool.false_eq_true, Bool.not_true, Bool.not_false, bne_self_eq_false, eq_self, ite_true, ite_false, reduceIte]
  refine Ev.bind (laws_heldByteS_ev _ 1 (by omega) (by omega)) ?_
  simp only [one_add_neg, if_true, if_false, Bool.false_eq_true, Bool.not_true, Bool.not_false, bne_self_eq_false, eq_self, ite_true, ite_false, reduceIte]
  exact Ev.now _

end Go.Proofs.Ytcdiajjadgbngaa.Pure
