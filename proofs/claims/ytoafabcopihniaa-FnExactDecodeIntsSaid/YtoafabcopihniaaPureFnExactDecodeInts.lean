/- FnExactDecodeInts answers true, for each list of bytes and all two numbers that an int holds. -/
import Derived.Test.YtoafabcopihniaaPFnExactDecodeIntsx4
import Derived.Test.YtoafabcopihniaaWSized
set_option linter.unusedVariables false
set_option linter.unusedSimpArgs false
namespace Go.Proofs.Ytoafabcopihniaa.PrintWords
open Go.ChangeShapes Go.WideShapes
/-- The printed row names the word so; it lies one namespace beside. -/
theorem sized_ints {H : Type} {enc : TypeId × Value → H} {P : Program} {W : World} {base : Nat} {spare : Nat → Bool} {held : Bool} {t e : TypeId} {k : IntKind} {a : Option Addr} {len cap : Nat} {d : DataW H} {ps : List MemPlace} {ts : List TypeId} {ds : List (DataW H)} {j : Nat}
    (hsz : (DataW.weightsEach P ts ds).all (· ≤ reachBytes) = true) (ht : ts[j]? = some t) (hd : ds[j]? = some d) (hu : P.underlying t = some (.slice e)) (he : P.underlying e = some (.int k)) (hc : P.cellsOf e = 1) {B : Nat} (hB : P.bytesOf e = B)
    (h : DataW.Trod enc P W base spare held t (.slice a len cap) d ps) : len * B ≤ 140737488351232 :=
  Go.Proofs.YtoafabcopihniaaW.PrintWords.sized_ints hsz ht hd hu he hc hB h
end Go.Proofs.Ytoafabcopihniaa.PrintWords
namespace Go.Proofs.Ytoafabcopihniaa.Pure
open Go.RowKit Go.Proofs.Ytoafabcopihniaa.PFnExactDecodeInts Go.Proofs.YtoafabcopihniaaW.PrintWords Go.Proofs.YtoafabcopihniaaW.PrintLast Go.Proofs.YtoafabcopihniaaW.PrintMore

theorem wrapS {x : Int} (h1 : -9223372036854775808 ≤ x) (h2 : x ≤ 9223372036854775807) : wrap64 x = x := by
  unfold wrap64
  omega
theorem i64wf {x : Int} (h : (Lit.int .i64 x).wf = true) : -9223372036854775808 ≤ x ∧ x ≤ 9223372036854775807 := by
  have h1 : (decide (IntKind.i64.min ≤ x) && decide (x ≤ IntKind.i64.max)) = true := h
  rw [Bool.and_eq_true, decide_eq_true_eq, decide_eq_true_eq] at h1
  exact h1
theorem u8wf {x : Int} (h : (Lit.int .u8 x).wf = true) : 0 ≤ x ∧ x ≤ 255 := by
  have h1 : (decide (IntKind.u8.min ≤ x) && decide (x ≤ IntKind.u8.max)) = true := h
  rw [Bool.and_eq_true, decide_eq_true_eq, decide_eq_true_eq] at h1
  exact h1
/-- What is told of some number of rounds is told of any three together. -/
theorem evNow {α : Type} {g : Option α} {r : α} (h : g = some r) : Ev (fun _ => g) r := ⟨0, fun _ _ => h⟩
theorem one_add_neg (n : Nat) : ((1 : Int) + (n : Int) < 0) = False := by
  simp only [eq_iff_iff, iff_false]
  omega

theorem set_take_succ {α : Type} (d : α) (o l : List α) (n : Nat) (ho : o.length = l.length) (hn : n < l.length) (ht : o.take n = l.take n) : (o.set n (l.getD n d)).take (n + 1) = l.take (n + 1) := by
  apply List.ext_getElem?
  intro j
  have hj := congrArg (fun t => t[j]?) ht
  simp only [List.getElem?_take] at hj ⊢
  by_cases h1 : j < n
  · rw [if_pos h1, if_pos h1] at hj
    rw [if_pos (by omega), if_pos (by omega), List.getElem?_set_ne (by omega)]
    exact hj
  · by_cases h2 : j = n
    · subst h2
      rw [if_pos (by omega), if_pos (by omega), List.getElem?_set_self (by omega), List.getElem?_eq_getElem hn, List.getD_eq_getElem?_getD, List.getElem?_eq_getElem hn]
      rfl
    · rw [if_neg (by omega), if_neg (by omega)]
theorem take_all {α : Type} {o l : List α} (n : Nat) (ho : o.length = l.length) (hn : l.length ≤ n) (ht : o.take n = l.take n) : o = l := by
  rw [List.take_of_length_le (by omega), List.take_of_length_le (by omega)] at ht
  exact ht

def hgo (d : Int) (l : List Int) : Int := l.foldl (fun d v => (d * 1000003 + v % 2147483647 + 13) % 2147483647) d
def hashOf (l : List Int) : Int := hgo 11 l
def khash (a : Int) (l : List Int) : Int := hashOf ([a] ++ l ++ [a])
theorem hgo_range (l : List Int) : ∀ d, 0 ≤ d → d < 2147483647 → 0 ≤ hgo d l ∧ hgo d l < 2147483647 := by
  induction l with
  | nil => intro d h1 h2; exact ⟨h1, h2⟩
  | cons v l ih => intro d h1 h2; exact ih ((d * 1000003 + v % 2147483647 + 13) % 2147483647) (by omega) (by omega)
theorem khash_range (a : Int) (l : List Int) : 0 ≤ khash a l ∧ khash a l < 2147483647 := hgo_range _ 11 (by omega) (by omega)
theorem drop_rd (l : List Int) (i : Int) (h0 : 0 ≤ i) (h1 : i < l.length) : l.drop i.toNat = rd l i :: l.drop (i + 1).toNat := by
  rw [show (i + 1).toNat = i.toNat + 1 from by omega, List.drop_eq_getElem_cons (by omega)]
  congr 1
  simp [rd, List.getD_eq_getElem?_getD, List.getElem?_eq_getElem (show i.toNat < l.length by omega)]
theorem hash_round (d v : Int) (h1 : 0 ≤ d) (h2 : d < 2147483647) : Int.tmod (wrap64 ((wrap64 ((wrap64 (d * 1000003)) + v % 2147483647)) + 13)) 2147483647 = (d * 1000003 + v % 2147483647 + 13) % 2147483647 := by
  rw [wrapS (x := d * 1000003) (by omega) (by omega), wrapS (x := d * 1000003 + v % 2147483647) (by omega) (by omega), wrapS (by omega) (by omega), Int.tmod_eq_emod_of_nonneg (by omega)]

theorem shl7 (kk : Nat) (hk : kk ≤ 5) (y : Int) (h0 : 0 ≤ y) (h1 : y < 128) : shl .i64 y (7 * (kk : Int)) = y * 128 ^ kk := by
  have h : kk = 0 ∨ kk = 1 ∨ kk = 2 ∨ kk = 3 ∨ kk = 4 ∨ kk = 5 := by omega
  unfold shl
  rw [IntKind.wrap_i64]
  rcases h with rfl | rfl | rfl | rfl | rfl | rfl <;> simp [IntKind.bits] <;> omega
theorem bor_comm (a b : Int) : Go.bits .or .i64 a b = Go.bits .or .i64 b a := by
  simp only [Go.bits, BitVec.or_comm]
theorem or7 (kk : Nat) (hk : kk ≤ 5) (n y : Int) (hn0 : 0 ≤ n) (hn : n < 128 ^ kk) (h0 : 0 ≤ y) (h1 : y < 128) : Go.bits .or .i64 n (y * 128 ^ kk) = n + y * 128 ^ kk := by
  have h : kk = 0 ∨ kk = 1 ∨ kk = 2 ∨ kk = 3 ∨ kk = 4 ∨ kk = 5 := by omega
  have W : ∀ n : Int, 0 ≤ n → n < 2 ^ 62 → IntKind.i64.wrap n = n := fun n h0 h1 => by rw [IntKind.wrap_i64]; omega
  rw [bor_comm]
  rcases h with rfl | rfl | rfl | rfl | rfl | rfl
  · have := bits_join .i64 62 (by decide) W 0 (y * 128 ^ 0) n (by omega) (by omega) (by omega) hn0 (by omega) (by omega); rw [this]; omega
  · have := bits_join .i64 62 (by decide) W 7 (y * 128 ^ 1) n (by omega) (by omega) (by omega) hn0 (by omega) (by omega); rw [this]; omega
  · have := bits_join .i64 62 (by decide) W 14 (y * 128 ^ 2) n (by omega) (by omega) (by omega) hn0 (by omega) (by omega); rw [this]; omega
  · have := bits_join .i64 62 (by decide) W 21 (y * 128 ^ 3) n (by omega) (by omega) (by omega) hn0 (by omega) (by omega); rw [this]; omega
  · have := bits_join .i64 62 (by decide) W 28 (y * 128 ^ 4) n (by omega) (by omega) (by omega) hn0 (by omega) (by omega); rw [this]; omega
  · have := bits_join .i64 62 (by decide) W 35 (y * 128 ^ 5) n (by omega) (by omega) (by omega) hn0 (by omega) (by omega); rw [this]; omega
theorem pow7 (kk : Nat) (hk : kk ≤ 5) (n y : Int) (hn0 : 0 ≤ n) (hn : n < 128 ^ kk) (h0 : 0 ≤ y) (h1 : y < 128) : 0 ≤ n + y * 128 ^ kk ∧ n + y * 128 ^ kk < 128 ^ (kk + 1) ∧ n + y * 128 ^ kk < 4611686018427387904 := by
  have h : kk = 0 ∨ kk = 1 ∨ kk = 2 ∨ kk = 3 ∨ kk = 4 ∨ kk = 5 := by omega
  rcases h with rfl | rfl | rfl | rfl | rfl | rfl <;> omega
/-- A varint is read: d rounds are left, kk bytes are read, n is read so far. -/
def rdUgo (l : List Int) (a : Int) : Nat → Nat → Int → Int × Int × Bool
  | 0, _, _ => (0, 0, false)
  | d + 1, kk, n =>
    if 0 ≤ a ∧ a + kk < l.length then
      if rd l (a + kk) < 128 then
        if (0 < kk ∧ rd l (a + kk) = 0) ∨ n + rd l (a + kk) % 128 * 128 ^ kk > 1000000000000 then (0, 0, false)
        else (n + rd l (a + kk) % 128 * 128 ^ kk, a + kk + 1, true)
      else rdUgo l a d (kk + 1) (n + rd l (a + kk) % 128 * 128 ^ kk)
    else (0, 0, false)
def rdU (l : List Int) (a : Int) : Int × Int × Bool := rdUgo l a 6 0 0
/-- What is read is a number of its kind, and its end lies in the bytes. -/
theorem rdUgo_good (l : List Int) (a : Int) (d : Nat) : ∀ kk n, 0 ≤ n → kk + d = 6 → n < 128 ^ kk → ((rdUgo l a d kk n).2.2 = false ∧ (rdUgo l a d kk n).1 = 0 ∧ (rdUgo l a d kk n).2.1 = 0) ∨ ((rdUgo l a d kk n).2.2 = true ∧ 0 ≤ (rdUgo l a d kk n).1 ∧ (rdUgo l a d kk n).1 ≤ 1000000000000 ∧ 0 ≤ a ∧ a + kk < (rdUgo l a d kk n).2.1 ∧ (rdUgo l a d kk n).2.1 ≤ l.length) := by
  induction d with
  | zero => intro kk n h0 hk hn; exact Or.inl ⟨rfl, rfl, rfl⟩
  | succ d ih =>
    intro kk n h0 hk hn
    have hp := pow7 kk (by omega) n (rd l (a + kk) % 128) h0 hn (by omega) (by omega)
    unfold rdUgo
    by_cases h : 0 ≤ a ∧ a + kk < l.length
    · rw [if_pos h]
      by_cases h2 : rd l (a + kk) < 128
      · rw [if_pos h2]
        by_cases h3 : (0 < kk ∧ rd l (a + kk) = 0) ∨ n + rd l (a + kk) % 128 * 128 ^ kk > 1000000000000
        · rw [if_pos h3]
          exact Or.inl ⟨rfl, rfl, rfl⟩
        · rw [if_neg h3]
          refine Or.inr ⟨rfl, hp.1, ?_, h.1, ?_, ?_⟩
          · show n + rd l (a + kk) % 128 * 128 ^ kk ≤ 1000000000000
            have : ¬ (n + rd l (a + kk) % 128 * 128 ^ kk > 1000000000000) := fun h => h3 (Or.inr h)
            omega
          · show a + kk < a + kk + 1
            omega
          · show a + kk + 1 ≤ l.length
            omega
      · rw [if_neg h2]
        rcases ih (kk + 1) (n + rd l (a + kk) % 128 * 128 ^ kk) hp.1 (by omega) hp.2.1 with h | h
        · exact Or.inl h
        · refine Or.inr ⟨h.1, h.2.1, h.2.2.1, h.2.2.2.1, ?_, h.2.2.2.2.2⟩
          have := h.2.2.2.2.1
          omega
    · rw [if_neg h]
      exact Or.inl ⟨rfl, rfl, rfl⟩
theorem rdU_good (l : List Int) (a : Int) : ((rdU l a).2.2 = false ∧ (rdU l a).1 = 0 ∧ (rdU l a).2.1 = 0) ∨ ((rdU l a).2.2 = true ∧ 0 ≤ (rdU l a).1 ∧ (rdU l a).1 ≤ 1000000000000 ∧ 0 ≤ a ∧ a < (rdU l a).2.1 ∧ (rdU l a).2.1 ≤ l.length) := by
  have h := rdUgo_good l a 6 0 0 (by omega) (by omega) (by simp)
  simpa [rdU] using h
theorem rd_byte (l : List Int) (hb : ∀ x ∈ l, 0 ≤ x ∧ x ≤ 255) (i : Int) (h0 : 0 ≤ i) (h1 : i < l.length) : 0 ≤ rd l i ∧ rd l i ≤ 255 := by
  refine hb _ ?_
  simp only [rd, List.getD_eq_getElem?_getD, List.getElem?_eq_getElem (show i.toNat < l.length by omega), Option.getD_some]
  exact List.getElem_mem _

def decGo (l : List Int) : Nat → Int → List Int → List Int × Int × Bool
  | 0, a, o => (o, a, true)
  | d + 1, a, o => if (rdU l a).2.2 = true then decGo l d (rdU l a).2.1 (o ++ [(rdU l a).1]) else ([], 0, false)
def decI (l : List Int) (a c : Int) : List Int × Int × Bool := if (0 ≤ c ∧ c ≤ 100) ∧ 0 ≤ a ∧ a ≤ (l.length : Int) then decGo l c.toNat a [] else ([], 0, false)
theorem decGo_length (l : List Int) (d : Nat) : ∀ a o, (decGo l d a o).1.length ≤ o.length + d := by
  induction d with
  | zero => intro a o; simp [decGo]
  | succ d ih =>
    intro a o
    unfold decGo
    split
    · have := ih (rdU l a).2.1 (o ++ [(rdU l a).1])
      simp only [List.length_append, List.length_cons, List.length_nil] at this
      omega
    · simp
theorem decI_length (l : List Int) (a c : Int) : (decI l a c).1.length ≤ 100 := by
  unfold decI
  split
  · have := decGo_length l c.toNat a []
    simp only [List.length_nil] at this
    omega
  · simp

theorem impl_InRange_is (a b c : Int) : impl_InRange.f a b c = some (decide (b ≤ a ∧ a ≤ c)) := by
  unfold impl_InRange.f
  by_cases h : b ≤ a <;> simp [h]

theorem impl_rdU_j1 (k : Nat) (l : List Int) (a n x q : Int) (kk : Nat) (hl : l.length ≤ 17592186044416) (hk : kk ≤ 5) (h1 : 0 ≤ a) (h2 : a + kk < l.length) (hx : rd l (a + kk) = x) (hx0 : 0 ≤ x) (hx1 : x ≤ 255)
    (hq : wrap64 (n + shl .i64 (Int.tmod x 128) (7 * (kk : Int))) = q) :
    impl_ReadUvarint.j1 (k + 1) l a n (kk : Int) true = if x < 128 then (if (0 < kk ∧ x = 0) ∨ q > 1000000000000 then some (0, 0, false) else some (q, a + kk + 1, true)) else impl_ReadUvarint.l0 k l a q ((kk + 1 : Nat) : Int) := by
  revert hq hx
  have e1 : wrap64 (a + (kk : Int)) = a + kk := wrapS (by omega) (by omega)
  have e2 : wrap64 x = x := wrapS (by omega) (by omega)
  have e3 : wrap64 (7 * (kk : Int)) = 7 * kk := wrapS (by omega) (by omega)
  have e5 : wrap64 ((kk : Int) + 1) = ((kk + 1 : Nat) : Int) := by rw [wrapS (by omega) (by omega)]; rfl
  have e6 : wrap64 (a + (kk : Int) + 1) = a + kk + 1 := wrapS (by omega) (by omega)
  intro hx hq
  simp only [impl_ReadUvarint.j1, if_true, e1, hx, e2, e3, hq, e5, e6]
  clear hq hx e1 e2 e3 e5 e6
  rw [if_pos (by omega), if_pos (by omega), if_pos (by omega)]
  by_cases c1 : x < 128 <;> by_cases c2 : x = 0 <;> by_cases c3 : kk = 0 <;> by_cases c4 : q > 1000000000000 <;> simp [c1, c2, c3, c4, show ((kk : Int) > 0) = (0 < kk) from by simp] <;> omega
theorem impl_ReadUvarint_ev (l : List Int) (a : Int) (hl : l.length ≤ 17592186044416) (hb : ∀ x ∈ l, 0 ≤ x ∧ x ≤ 255) : Ev (fun k => impl_ReadUvarint.f k l a) (rdU l a) := by
  have key : 0 ≤ a ∧ a ≤ (l.length : Int) - 1 → ∀ (d kk : Nat) (n : Int), kk + d = 6 → 0 ≤ n → n < 128 ^ kk → Ev (fun k => impl_ReadUvarint.l0 k l a n (kk : Int)) (rdUgo l a d kk n) := by
    intro hr d
    induction d with
    | zero =>
      intro kk n hk h0 hn
      clear hn
      refine Ev.step (f := fun k => impl_ReadUvarint.j1 k l a n (kk : Int) false) (fun k => ?_) (Ev.step (f := fun _ => some (0, 0, false)) (fun k => ?_) (Ev.now _))
      · simp only [impl_ReadUvarint.l0]
        rw [if_neg (by omega)]
      · simp only [impl_ReadUvarint.j1, Bool.false_eq_true, if_false]
    | succ d ih =>
      intro kk n hk h0 hn
      unfold rdUgo
      by_cases h : 0 ≤ a ∧ a + kk < l.length
      · rw [if_pos h]
        have hx := rd_byte l hb (a + kk) (by omega) (by omega)
        generalize ex : rd l (a + kk) = x at hx ⊢
        have hp := pow7 kk (by omega) n (x % 128) h0 hn (by omega) (by omega)
        have hi := ih (kk + 1) (n + x % 128 * 128 ^ kk) (by omega) hp.1 hp.2.1
        have e4 : wrap64 (n + shl .i64 (Int.tmod x 128) (7 * (kk : Int))) = n + x % 128 * 128 ^ kk := by
          rw [Int.tmod_eq_emod_of_nonneg hx.1, shl7 kk (by omega) _ (by omega) (by omega), wrapS (by omega) (by omega)]
        generalize eq : n + x % 128 * 128 ^ kk = q at *
        clear hp hn ih eq
        have E4 := Aside0.mk e4
        clear e4
        refine Ev.step (f := fun k => impl_ReadUvarint.j1 k l a n (kk : Int) true) (fun k => ?_) ?_
        · simp only [impl_ReadUvarint.l0]
          rw [if_pos (by omega), wrapS (by omega) (by omega), decide_eq_true (by omega)]
        · refine Ev.step (fun k => impl_rdU_j1 k l a n x q kk hl (by omega) h.1 h.2 ex hx.1 hx.2 E4.out) ?_
          by_cases c : x < 128
          · simp only [if_pos c]
            by_cases c2 : (0 < kk ∧ x = 0) ∨ q > 1000000000000
            · simp only [if_pos c2]; exact Ev.now _
            · simp only [if_neg c2]; exact Ev.now _
          · simp only [if_neg c]
            exact hi
      · rw [if_neg h]
        clear hn
        refine Ev.step (f := fun k => impl_ReadUvarint.j1 k l a n (kk : Int) false) (fun k => ?_) (Ev.step (f := fun _ => some (0, 0, false)) (fun k => ?_) (Ev.now _))
        · simp only [impl_ReadUvarint.l0]
          rw [if_pos (by omega), wrapS (by omega) (by omega), decide_eq_false (by omega)]
        · simp only [impl_ReadUvarint.j1, Bool.false_eq_true, if_false]
  unfold impl_ReadUvarint.f
  simp only [impl_InRange_is, Option.bind_some]
  rw [show wrap64 ((l.length : Int) - 1) = (l.length : Int) - 1 from wrapS (by omega) (by omega)]
  by_cases hr : 0 ≤ a ∧ a ≤ (l.length : Int) - 1
  · simp only [decide_eq_true hr, if_true]
    exact key hr 6 0 0 (by omega) (by omega) (by simp)
  · simp only [decide_eq_false hr, Bool.false_eq_true, if_false]
    have e : rdU l a = (0, 0, false) := by
      unfold rdU rdUgo
      rw [if_neg (by omega)]
    rw [e]
    exact Ev.now _



theorem impl_DecodeInts_ev (l : List Int) (a c : Int) (hl : l.length ≤ 17592186044416) (hb : ∀ x ∈ l, 0 ≤ x ∧ x ≤ 255) : Ev (fun k => impl_DecodeInts.f k l a c) (decI l a c) := by
  have key : c ≤ 100 → ∀ (d j : Nat) (a : Int) (o : List Int), (j : Int) + d = c → o.length = j → Ev (fun k => impl_DecodeInts.l0 k l a o c ((j : Nat) : Int)) (decGo l d a o) := by
    intro hc d
    induction d with
    | zero =>
      intro j a o hj ho
      refine Ev.step (f := fun _ => some (o, a, true)) (fun k => ?_) (Ev.now _)
      simp only [impl_DecodeInts.l0]
      rw [if_neg (by omega)]
    | succ d ih =>
      intro j a o hj ho
      refine Ev.step (f := fun k => (impl_ReadUvarint.f k l a).bind fun t => if t.2.2 = true then (if o.length < 17592186044416 then impl_DecodeInts.l0 k l t.2.1 (o ++ [t.1]) c ((j + 1 : Nat) : Int) else none) else some ([], 0, false)) (fun k => ?_) (Ev.bind (impl_ReadUvarint_ev l a hl hb) ?_)
      · simp only [impl_DecodeInts.l0]
        rw [if_pos (by omega), wrapS (x := (j : Int) + 1) (by omega) (by omega)]
        rfl
      · unfold decGo
        by_cases h : (rdU l a).2.2 = true
        · simp only [if_pos h, if_pos (show o.length < 17592186044416 from by omega)]
          exact ih (j + 1) _ _ (by omega) (by simp; omega)
        · simp only [if_neg h]
          exact Ev.now _
  have jt : Ev (fun k => impl_DecodeInts.j0 k l a c true) ([], 0, false) := by
    refine Ev.step (f := fun _ => some ([], 0, false)) (fun k => ?_) (Ev.now _)
    simp only [impl_DecodeInts.j0, if_true]
  unfold impl_DecodeInts.f decI
  simp only [impl_InRange_is, Option.bind_some]
  by_cases c1 : 0 ≤ c ∧ c ≤ 100
  · simp only [decide_eq_true c1, if_true]
    by_cases c2 : 0 ≤ a ∧ a ≤ (l.length : Int)
    · simp only [decide_eq_true c2, Bool.not_true]
      rw [if_pos ⟨c1, c2⟩]
      have h := key c1.2 c.toNat 0 a [] (by omega) rfl
      refine Ev.step (f := fun k => impl_DecodeInts.l0 k l a [] c 0) (fun k => ?_) h
      simp only [impl_DecodeInts.j0, Bool.false_eq_true, if_false]
    · simp only [decide_eq_false c2, Bool.not_false]
      rw [if_neg (fun h => c2 h.2)]
      exact jt
  · simp only [decide_eq_false c1, Bool.false_eq_true, if_false]
    rw [if_neg (fun h => c1 h.1)]
    exact jt

theorem and127 (x : Int) (h0 : 0 ≤ x) (h1 : x < 4611686018427387904) : Go.bits .and .i64 x 127 = x % 128 := by
  have h := bits_mask .i64 62 (by decide) (fun n h0 h1 => by rw [IntKind.wrap_i64]; omega) 7 (by decide) x h0 (by omega)
  simpa using h

theorem spec_rdU_j1 (k : Nat) (l : List Int) (a n x q : Int) (kk : Nat) (hl : l.length ≤ 17592186044416) (hk : kk ≤ 5) (h1 : 0 ≤ a) (h2 : a + kk < l.length) (hx : rd l (a + kk) = x) (hx0 : 0 ≤ x) (hx1 : x ≤ 255)
    (hq : Go.bits .or .i64 n (shl .i64 (Go.bits .and .i64 x 127) (7 * (kk : Int))) = q) :
    spec_ReadUvarint.j1 (k + 1) l a n (kk : Int) false = if x < 128 then (if (0 < kk ∧ x = 0) ∨ q > 1000000000000 then some (0, 0, false) else some (q, a + kk + 1, true)) else spec_ReadUvarint.l0 k l a q ((kk + 1 : Nat) : Int) := by
  revert hq hx
  have e1 : wrap64 (a + (kk : Int)) = a + kk := wrapS (by omega) (by omega)
  have e2 : wrap64 x = x := wrapS (by omega) (by omega)
  have e3 : wrap64 (7 * (kk : Int)) = 7 * kk := wrapS (by omega) (by omega)
  have e5 : wrap64 ((kk : Int) + 1) = ((kk + 1 : Nat) : Int) := by rw [wrapS (by omega) (by omega)]; rfl
  have e6 : wrap64 (a + (kk : Int) + 1) = a + kk + 1 := wrapS (by omega) (by omega)
  intro hx hq
  simp only [spec_ReadUvarint.j1, Bool.false_eq_true, if_false, e1, hx, e2, e3, hq, e5, e6]
  clear hq hx e1 e2 e3 e5 e6
  rw [if_pos (by omega), if_pos (by omega), if_pos (by omega)]
  by_cases c1 : x < 128 <;> by_cases c2 : x = 0 <;> by_cases c3 : kk = 0 <;> by_cases c4 : q > 1000000000000 <;> simp [c1, c2, c3, c4, show ((kk : Int) > 0) = (0 < kk) from by simp] <;> omega
theorem spec_ReadUvarint_ev (l : List Int) (a : Int) (hl : l.length ≤ 17592186044416) (hb : ∀ x ∈ l, 0 ≤ x ∧ x ≤ 255) : Ev (fun k => spec_ReadUvarint.f k l a) (rdU l a) := by
  have key : ∀ (d kk : Nat) (n : Int), kk + d = 6 → 0 ≤ n → n < 128 ^ kk → Ev (fun k => spec_ReadUvarint.l0 k l a n (kk : Int)) (rdUgo l a d kk n) := by
    intro d
    induction d with
    | zero =>
      intro kk n hk h0 hn
      clear hn
      refine Ev.step (f := fun _ => some (0, 0, false)) (fun k => ?_) (Ev.now _)
      simp only [spec_ReadUvarint.l0]
      rw [if_neg (by omega)]
    | succ d ih =>
      intro kk n hk h0 hn
      unfold rdUgo
      by_cases h : 0 ≤ a ∧ a + kk < l.length
      · rw [if_pos h]
        have hx := rd_byte l hb (a + kk) (by omega) (by omega)
        generalize ex : rd l (a + kk) = x at hx ⊢
        have hp := pow7 kk (by omega) n (x % 128) h0 hn (by omega) (by omega)
        have hi := ih (kk + 1) (n + x % 128 * 128 ^ kk) (by omega) hp.1 hp.2.1
        have e4 : Go.bits .or .i64 n (shl .i64 (Go.bits .and .i64 x 127) (7 * (kk : Int))) = n + x % 128 * 128 ^ kk := by
          rw [and127 _ (by omega) (by omega), shl7 kk (by omega) _ (by omega) (by omega), or7 kk (by omega) n _ h0 hn (by omega) (by omega)]
        generalize eq : n + x % 128 * 128 ^ kk = q at *
        clear hp hn ih eq
        have E4 := Aside0.mk e4
        clear e4
        refine Ev.step (f := fun k => spec_ReadUvarint.j1 k l a n (kk : Int) false) (fun k => ?_) ?_
        · simp only [spec_ReadUvarint.l0]
          rw [if_pos (by omega), if_neg (by omega), wrapS (by omega) (by omega), decide_eq_false (by omega)]
        · refine Ev.step (fun k => spec_rdU_j1 k l a n x q kk hl (by omega) h.1 h.2 ex hx.1 hx.2 E4.out) ?_
          by_cases c : x < 128
          · simp only [if_pos c]
            by_cases c2 : (0 < kk ∧ x = 0) ∨ q > 1000000000000
            · simp only [if_pos c2]; exact Ev.now _
            · simp only [if_neg c2]; exact Ev.now _
          · simp only [if_neg c]
            exact hi
      · rw [if_neg h]
        clear hn
        refine Ev.step (f := fun k => spec_ReadUvarint.j1 k l a n (kk : Int) true) (fun k => ?_) (Ev.step (f := fun _ => some (0, 0, false)) (fun k => ?_) (Ev.now _))
        · simp only [spec_ReadUvarint.l0]
          rw [if_pos (by omega)]
          by_cases h1 : a < 0
          · rw [if_pos h1]
          · rw [if_neg h1, wrapS (by omega) (by omega), decide_eq_true (by omega)]
        · simp only [spec_ReadUvarint.j1, if_true]
  exact key 6 0 0 (by omega) (by omega) (by simp)



theorem spec_l1In_is (a b c : Int) : spec_l1In.f a b c = some (decide (b ≤ a ∧ a ≤ c)) := by
  unfold spec_l1In.f
  by_cases h : b ≤ a <;> simp [h]

theorem spec_DecodeInts_ev (l : List Int) (a c : Int) (hl : l.length ≤ 17592186044416) (hb : ∀ x ∈ l, 0 ≤ x ∧ x ≤ 255) : Ev (fun k => spec_DecodeInts.f k l a c) (decI l a c) := by
  have key : c ≤ 100 → ∀ (d j : Nat) (a : Int) (o : List Int), (j : Int) + d = c → o.length = j → Ev (fun k => spec_DecodeInts.l0 k l a c o ((j : Nat) : Int)) (decGo l d a o) := by
    intro hc d
    induction d with
    | zero =>
      intro j a o hj ho
      refine Ev.step (f := fun _ => some (o, a, true)) (fun k => ?_) (Ev.now _)
      simp only [spec_DecodeInts.l0]
      rw [if_neg (by omega)]
    | succ d ih =>
      intro j a o hj ho
      refine Ev.step (f := fun k => (spec_ReadUvarint.f k l a).bind fun t => if t.2.2 = true then (if o.length < 17592186044416 then spec_DecodeInts.l0 k l t.2.1 c (o ++ [t.1]) ((j + 1 : Nat) : Int) else none) else some ([], 0, false)) (fun k => ?_) (Ev.bind (spec_ReadUvarint_ev l a hl hb) ?_)
      · simp only [spec_DecodeInts.l0]
        rw [if_pos (by omega), wrapS (x := (j : Int) + 1) (by omega) (by omega)]
        rfl
      · unfold decGo
        by_cases h : (rdU l a).2.2 = true
        · simp only [if_pos h, if_pos (show o.length < 17592186044416 from by omega)]
          exact ih (j + 1) _ _ (by omega) (by simp; omega)
        · simp only [if_neg h]
          exact Ev.now _
  have jt : Ev (fun k => spec_DecodeInts.j0 k l a c [] true) ([], 0, false) := by
    refine Ev.step (f := fun _ => some ([], 0, false)) (fun k => ?_) (Ev.now _)
    simp only [spec_DecodeInts.j0, if_true]
  unfold spec_DecodeInts.f decI
  simp only [spec_l1In_is, Option.bind_some]
  by_cases c1 : 0 ≤ c ∧ c ≤ 100
  · simp only [decide_eq_true c1, if_true]
    by_cases c2 : 0 ≤ a ∧ a ≤ (l.length : Int)
    · simp only [decide_eq_true c2, Bool.not_true]
      rw [if_pos ⟨c1, c2⟩]
      have h := key c1.2 c.toNat 0 a [] (by omega) rfl
      refine Ev.step (f := fun k => spec_DecodeInts.l0 k l a c [] 0) (fun k => ?_) h
      simp only [spec_DecodeInts.j0, Bool.false_eq_true, if_false]
    · simp only [decide_eq_false c2, Bool.not_false]
      rw [if_neg (fun h => c2 h.2)]
      exact jt
  · simp only [decide_eq_false c1, Bool.false_eq_true, if_false]
    rw [if_neg (fun h => c1 h.1)]
    exact jt

theorem laws_toByteS_ev (l : List Int) (hl : l.length ≤ 17592186044416) : Ev (fun k => laws_toByteS.f k l) l := by
  have key : ∀ (d : Nat) (o : List Int) (i : Int), 0 ≤ i → o.length = l.length → i + d = l.length → o.take i.toNat = l.take i.toNat → Ev (fun k => laws_toByteS.l0 k l o i) l := by
    intro d
    induction d with
    | zero =>
      intro o i h0 ho hi ht
      refine Ev.step (f := fun _ => some l) (fun k => ?_) (Ev.now _)
      simp only [laws_toByteS.l0]
      rw [if_neg (by omega), take_all i.toNat ho (by omega) ht]
    | succ d ih =>
      intro o i h0 ho hi ht
      refine Ev.step (f := fun k => laws_toByteS.l0 k l (o.set i.toNat (rd l i)) (i + 1)) (fun k => ?_) (ih _ _ (by omega) (by simpa using ho) (by omega) ?_)
      · simp only [laws_toByteS.l0]
        rw [if_pos (by omega), if_pos h0, if_pos (by omega), wrapS (by omega) (by omega)]
      · rw [show (i + 1).toNat = i.toNat + 1 from by omega]
        exact set_take_succ _ o l i.toNat ho (by omega) ht
  refine Ev.congr (f := fun k => laws_toByteS.l0 k l (List.replicate l.length 0) 0) (fun k => ?_) (key l.length _ 0 (by omega) (by simp) (by omega) (by simp))
  unfold laws_toByteS.f
  rw [if_pos (by omega), if_pos (by omega)]
  rfl

theorem laws_eqByteS_ev (l : List Int) (hl : l.length ≤ 281474976710656) : Ev (fun k => laws_eqByteS.f k l l) true := by
  have key : ∀ (d : Nat) (i : Int), 0 ≤ i → i + d = l.length → Ev (fun k => laws_eqByteS.l0 k l l i) true := by
    intro d
    induction d with
    | zero =>
      intro i h0 hi
      refine Ev.step (f := fun _ => some true) (fun k => ?_) (Ev.now _)
      simp only [laws_eqByteS.l0]
      rw [if_neg (by omega)]
    | succ d ih =>
      intro i h0 hi
      refine Ev.step (f := fun k => laws_eqByteS.l0 k l l (i + 1)) (fun k => ?_) (ih _ (by omega) (by omega))
      simp only [laws_eqByteS.l0]
      rw [if_pos (by omega), if_pos h0, if_pos (by omega), wrapS (by omega) (by omega)]
      simp
  refine Ev.congr (f := fun k => laws_eqByteS.l0 k l l 0) (fun k => ?_) (key l.length 0 (by omega) (by omega))
  unfold laws_eqByteS.f
  rw [if_pos rfl]



theorem laws_eqIntS_ev (l : List Int) (hl : l.length ≤ 281474976710656) : Ev (fun k => laws_eqIntS.f k l l) true := by
  have key : ∀ (d : Nat) (i : Int), 0 ≤ i → i + d = l.length → Ev (fun k => laws_eqIntS.l0 k l l i) true := by
    intro d
    induction d with
    | zero =>
      intro i h0 hi
      refine Ev.step (f := fun _ => some true) (fun k => ?_) (Ev.now _)
      simp only [laws_eqIntS.l0]
      rw [if_neg (by omega)]
    | succ d ih =>
      intro i h0 hi
      refine Ev.step (f := fun k => laws_eqIntS.l0 k l l (i + 1)) (fun k => ?_) (ih _ (by omega) (by omega))
      simp only [laws_eqIntS.l0]
      rw [if_pos (by omega), if_pos h0, if_pos (by omega), wrapS (by omega) (by omega)]
      simp
  refine Ev.congr (f := fun k => laws_eqIntS.l0 k l l 0) (fun k => ?_) (key l.length 0 (by omega) (by omega))
  unfold laws_eqIntS.f
  rw [if_pos rfl]

def markedByte (n : Nat) (a : Int) : List Int := (List.range n).map fun (j : Nat) => (a + j) % 256
theorem markedByte_length (n : Nat) (a : Int) : (markedByte n a).length = n := by simp [markedByte]
theorem markedByte_at (n : Nat) (a : Int) (j : Nat) (h : j < n) : (markedByte n a).getD j 0 = (a + j) % 256 := by
  simp [markedByte, List.getD_eq_getElem?_getD, h]
theorem laws_markByteS_ev (l : List Int) (a : Int) (ha : 0 ≤ a) (hl : a + l.length ≤ 4611686018427387904) : Ev (fun k => laws_markByteS.f k l a) (a + l.length, markedByte l.length a) := by
  have key : ∀ (d : Nat) (o : List Int) (x i : Int), 0 ≤ i → x = a + i → o.length = l.length → i + d = l.length → o.take i.toNat = (markedByte l.length a).take i.toNat → Ev (fun k => laws_markByteS.l0 k o x i) (a + l.length, markedByte l.length a) := by
    intro d
    induction d with
    | zero =>
      intro o x i h0 hx ho hi ht
      refine Ev.step (f := fun _ => some (a + l.length, markedByte l.length a)) (fun k => ?_) (Ev.now _)
      simp only [laws_markByteS.l0]
      have hm := markedByte_length l.length a
      rw [if_neg (by omega), take_all i.toNat (by omega) (by omega) ht, hx, show i = (l.length : Int) from by omega]
    | succ d ih =>
      intro o x i h0 hx ho hi ht
      have hm := markedByte_length l.length a
      have hat := markedByte_at l.length a i.toNat (by omega)
      rw [show (i.toNat : Int) = i from by omega, ← hx] at hat
      refine Ev.step (f := fun k => laws_markByteS.l0 k (o.set i.toNat ((markedByte l.length a).getD i.toNat 0)) (x + 1) (i + 1)) (fun k => ?_) (ih _ _ _ (by omega) (by omega) (by simpa using ho) (by omega) ?_)
      · simp only [laws_markByteS.l0]
        rw [if_pos (by omega), if_pos h0, wrapS (by omega) (by omega), wrapS (by omega) (by omega), hat]
      · rw [show (i + 1).toNat = i.toNat + 1 from by omega]
        exact set_take_succ 0 o _ i.toNat (by omega) (by omega) ht
  exact key l.length l a 0 (by omega) (by omega) rfl (by omega) (by simp)



def markedInt (n : Nat) (a : Int) : List Int := (List.range n).map fun (j : Nat) => a + j
theorem markedInt_length (n : Nat) (a : Int) : (markedInt n a).length = n := by simp [markedInt]
theorem markedInt_at (n : Nat) (a : Int) (j : Nat) (h : j < n) : (markedInt n a).getD j 0 = a + j := by
  simp [markedInt, List.getD_eq_getElem?_getD, h]
theorem laws_markIntS_ev (l : List Int) (a : Int) (ha : 0 ≤ a) (hl : a + l.length ≤ 4611686018427387904) : Ev (fun k => laws_markIntS.f k l a) (a + l.length, markedInt l.length a) := by
  have key : ∀ (d : Nat) (o : List Int) (x i : Int), 0 ≤ i → x = a + i → o.length = l.length → i + d = l.length → o.take i.toNat = (markedInt l.length a).take i.toNat → Ev (fun k => laws_markIntS.l0 k o x i) (a + l.length, markedInt l.length a) := by
    intro d
    induction d with
    | zero =>
      intro o x i h0 hx ho hi ht
      refine Ev.step (f := fun _ => some (a + l.length, markedInt l.length a)) (fun k => ?_) (Ev.now _)
      simp only [laws_markIntS.l0]
      have hm := markedInt_length l.length a
      rw [if_neg (by omega), take_all i.toNat (by omega) (by omega) ht, hx, show i = (l.length : Int) from by omega]
    | succ d ih =>
      intro o x i h0 hx ho hi ht
      have hm := markedInt_length l.length a
      have hat := markedInt_at l.length a i.toNat (by omega)
      rw [show (i.toNat : Int) = i from by omega, ← hx] at hat
      refine Ev.step (f := fun k => laws_markIntS.l0 k (o.set i.toNat ((markedInt l.length a).getD i.toNat 0)) (x + 1) (i + 1)) (fun k => ?_) (ih _ _ _ (by omega) (by omega) (by simpa using ho) (by omega) ?_)
      · simp only [laws_markIntS.l0]
        rw [if_pos (by omega), if_pos h0, wrapS (by omega) (by omega), wrapS (by omega) (by omega), hat]
      · rw [show (i + 1).toNat = i.toNat + 1 from by omega]
        exact set_take_succ 0 o _ i.toNat (by omega) (by omega) ht
  exact key l.length l a 0 (by omega) (by omega) rfl (by omega) (by simp)



theorem laws_heldIntS_ev (n : Nat) (a : Int) (ha : 0 ≤ a) (hl : a + n ≤ 4611686018427387904) : Ev (fun k => laws_heldIntS.f k (markedInt n a) a) (a + n) := by
  have hm := markedInt_length n a
  have key : ∀ (d : Nat) (x i : Int), 0 ≤ i → x = a + i → i + d = n → Ev (fun k => laws_heldIntS.l0 k (markedInt n a) x i) (a + n) := by
    intro d
    induction d with
    | zero =>
      intro x i h0 hx hi
      refine Ev.step (f := fun _ => some (a + n)) (fun k => ?_) (Ev.now _)
      simp only [laws_heldIntS.l0]
      rw [if_neg (by omega), hx, show i = (n : Int) from by omega]
    | succ d ih =>
      intro x i h0 hx hi
      refine Ev.step (f := fun k => laws_heldIntS.l0 k (markedInt n a) (x + 1) (i + 1)) (fun k => ?_) (ih _ _ (by omega) (by omega) (by omega))
      have hat : rd (markedInt n a) i = (markedInt n a).getD i.toNat 0 := rfl
      rw [markedInt_at n a i.toNat (by omega), show (i.toNat : Int) = i from by omega, ← hx] at hat
      simp only [laws_heldIntS.l0]
      rw [if_pos (by omega), if_pos h0, wrapS (by omega) (by omega), wrapS (by omega) (by omega), hat]
      simp
  exact key n a 0 (by omega) (by omega) (by omega)



theorem FnExactDecodeInts : laws_FnExactDecodeInts.Pure := by
  intro l a m _ _ hb _ _
  have hb := fun x hx => u8wf (hb x hx)
  apply Ev.rounds
  unfold laws_FnExactDecodeInts.f
  by_cases h1 : (l.length : Int) > 1048576
  · simp only [if_pos h1]; exact Ev.now _
  have hw := decI_length l a m
  simp only [if_neg h1]
  refine Ev.bind (laws_toByteS_ev l (by omega)) ?_
  refine Ev.bind (spec_DecodeInts_ev l a m (by omega) hb) ?_
  refine Ev.bind (laws_toByteS_ev l (by omega)) ?_
  refine Ev.bind (impl_DecodeInts_ev l a m (by omega) hb) ?_
  refine Ev.bind (laws_eqIntS_ev _ (by omega)) ?_
  simp only [if_true, if_false, Bool.false_eq_true, Bool.not_true, Bool.not_false, bne_self_eq_false, eq_self, ite_true, ite_false, reduceIte]
  refine Ev.step (g := fun k => laws_FnExactDecodeInts.j0 k _ _ _ _ _ _ _ _ _ _ false) (fun k => by simp only [laws_FnExactDecodeInts.j0]; rfl) ?_
  simp only [if_true, if_false, Bool.false_eq_true, Bool.not_true, Bool.not_false, bne_self_eq_false, eq_self, ite_true, ite_false, reduceIte]
  refine Ev.bind (laws_toByteS_ev l (by omega)) ?_
  refine Ev.bind (laws_eqByteS_ev l (by omega)) ?_
  simp only [if_true, if_false, Bool.false_eq_true, Bool.not_true, Bool.not_false, bne_self_eq_false, eq_self, ite_true, ite_false, reduceIte]
  refine Ev.bind (laws_markByteS_ev l 1 (by omega) (by omega)) ?_
  simp only [one_add_neg, if_true, if_false, Bool.false_eq_true, Bool.not_true, Bool.not_false, bne_self_eq_false, eq_self, ite_true, ite_false, reduceIte]
  refine Ev.bind (laws_eqIntS_ev _ (by omega)) ?_
  simp only [if_true, if_false, Bool.false_eq_true, Bool.not_true, Bool.not_false, bne_self_eq_false, eq_self, ite_true, ite_false, reduceIte]
  refine Ev.step (g := fun k => laws_FnExactDecodeInts.j1 k _ _ _ _ _ _ _ false) (fun k => by simp only [laws_FnExactDecodeInts.j1]; rfl) ?_
  simp only [if_true, if_false, Bool.false_eq_true, Bool.not_true, Bool.not_false, bne_self_eq_false, eq_self, ite_true, ite_false, reduceIte]
  refine Ev.bind (laws_markIntS_ev _ 1 (by omega) (by omega)) ?_
  refine Ev.bind (laws_heldIntS_ev _ 1 (by omega) (by omega)) ?_
  simp only [one_add_neg, if_true, if_false, Bool.false_eq_true, Bool.not_true, Bool.not_false, bne_self_eq_false, eq_self, ite_true, ite_false, reduceIte]
  refine Ev.bind (laws_toByteS_ev l (by omega)) ?_
  refine Ev.bind (impl_DecodeInts_ev l a m (by omega) hb) ?_
  refine Ev.bind (laws_eqIntS_ev _ (by omega)) ?_
  simp only [if_true, if_false, Bool.false_eq_true, Bool.not_true, Bool.not_false, bne_self_eq_false, eq_self, ite_true, ite_false, reduceIte]
  refine Ev.step (g := fun k => laws_FnExactDecodeInts.j2 k _ _ false) (fun k => by simp only [laws_FnExactDecodeInts.j2]; rfl) ?_
  simp only [if_true, if_false, Bool.false_eq_true, Bool.not_true, Bool.not_false, bne_self_eq_false, eq_self, ite_true, ite_false, reduceIte]
  refine Ev.bind (laws_heldIntS_ev _ 1 (by omega) (by omega)) ?_
  simp only [one_add_neg, if_true, if_false, Bool.false_eq_true, Bool.not_true, Bool.not_false, bne_self_eq_false, eq_self, ite_true, ite_false, reduceIte]
  exact Ev.now _

end Go.Proofs.Ytoafabcopihniaa.Pure
