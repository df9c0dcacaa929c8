/- FnExactEncodeInts answers true, for each list of numbers. -/
import Derived.Test.YtcdiajjadgbngaaPFnExactEncodeIntsx2
import Derived.Test.YtcdiajjadgbngaaWSized
set_option linter.unusedVariables false
set_option linter.unusedSimpArgs false
namespace Go.Proofs.Ytcdiajjadgbngaa.PrintWords
open Go.ChangeShapes Go.WideShapes
/-- The printed row names the word so; it lies one namespace beside. -/
theorem sized_ints {H : Type} {enc : TypeId × Value → H} {P : Program} {W : World} {base : Nat} {spare : Nat → Bool} {held : Bool} {t e : TypeId} {k : IntKind} {a : Option Addr} {len cap : Nat} {d : DataW H} {ps : List MemPlace} {ts : List TypeId} {ds : List (DataW H)} {j : Nat}
    (hsz : (DataW.weightsEach P ts ds).all (· ≤ reachBytes) = true) (ht : ts[j]? = some t) (hd : ds[j]? = some d) (hu : P.underlying t = some (.slice e)) (he : P.underlying e = some (.int k)) (hc : P.cellsOf e = 1) {B : Nat} (hB : P.bytesOf e = B)
    (h : DataW.Trod enc P W base spare held t (.slice a len cap) d ps) : len * B ≤ 140737488351232 :=
  Go.Proofs.YtcdiajjadgbngaaW.PrintWords.sized_ints hsz ht hd hu he hc hB h
end Go.Proofs.Ytcdiajjadgbngaa.PrintWords
namespace Go.Proofs.Ytcdiajjadgbngaa.Pure
open Go.RowKit Go.Proofs.Ytcdiajjadgbngaa.PFnExactEncodeInts Go.Proofs.YtcdiajjadgbngaaW.PrintWords Go.Proofs.YtcdiajjadgbngaaW.PrintLast Go.Proofs.YtcdiajjadgbngaaW.PrintMore

theorem wrapS {x : Int} (h1 : -9223372036854775808 ≤ x) (h2 : x ≤ 9223372036854775807) : wrap64 x = x := by
  unfold wrap64
  omega
theorem i64wf {x : Int} (h : (Lit.int .i64 x).wf = true) : -9223372036854775808 ≤ x ∧ x ≤ 9223372036854775807 := by
  have h1 : (decide (IntKind.i64.min ≤ x) && decide (x ≤ IntKind.i64.max)) = true := h
  rw [Bool.and_eq_true, decide_eq_true_eq, decide_eq_true_eq] at h1
  exact h1
theorem u8wf {x : Int} (h : (Lit.int .u8 x).wf = true) : 0 ≤ x ∧ x ≤ 255 := by
  have h1 : (decide (IntKind.u8.min ≤ x) && decide (x ≤ IntKind.u8.max)) = true := h
  rw [Bool.and_eq_true, decide_eq_true_eq, decide_eq_true_eq] at h1
  exact h1
/-- What is told of some number of rounds is told of any three together. -/
theorem evNow {α : Type} {g : Option α} {r : α} (h : g = some r) : Ev (fun _ => g) r := ⟨0, fun _ _ => h⟩
theorem one_add_neg (n : Nat) : ((1 : Int) + (n : Int) < 0) = False := by
  simp only [eq_iff_iff, iff_false]
  omega

theorem set_take_succ {α : Type} (d : α) (o l : List α) (n : Nat) (ho : o.length = l.length) (hn : n < l.length) (ht : o.take n = l.take n) : (o.set n (l.getD n d)).take (n + 1) = l.take (n + 1) := by
  apply List.ext_getElem?
  intro j
  have hj := congrArg (fun t => t[j]?) ht
  simp only [List.getElem?_take] at hj ⊢
  by_cases h1 : j < n
  · rw [if_pos h1, if_pos h1] at hj
    rw [if_pos (by omega), if_pos (by omega), List.getElem?_set_ne (by omega)]
    exact hj
  · by_cases h2 : j = n
    · subst h2
      rw [if_pos (by omega), if_pos (by omega), List.getElem?_set_self (by omega), List.getElem?_eq_getElem hn, List.getD_eq_getElem?_getD, List.getElem?_eq_getElem hn]
      rfl
    · rw [if_neg (by omega), if_neg (by omega)]
theorem take_all {α : Type} {o l : List α} (n : Nat) (ho : o.length = l.length) (hn : l.length ≤ n) (ht : o.take n = l.take n) : o = l := by
  rw [List.take_of_length_le (by omega), List.take_of_length_le (by omega)] at ht
  exact ht

theorem impl_InRange_is (a b c : Int) : impl_InRange.f a b c = some (decide (b ≤ a ∧ a ≤ c)) := by
  unfold impl_InRange.f
  by_cases h : b ≤ a <;> simp [h]

theorem spec_l1In_is (a b c : Int) : spec_l1In.f a b c = some (decide (b ≤ a ∧ a ≤ c)) := by
  unfold spec_l1In.f
  by_cases h : b ≤ a <;> simp [h]

theorem and127 (x : Int) (h0 : 0 ≤ x) (h1 : x < 4611686018427387904) : Go.bits .and .i64 x 127 = x % 128 := by
  have h := bits_mask .i64 62 (by decide) (fun n h0 h1 => by rw [IntKind.wrap_i64]; omega) 7 (by decide) x h0 (by omega)
  simpa using h

theorem or128 (x : Int) (h0 : 0 ≤ x) (h1 : x < 128) : Go.bits .or .i64 x 128 = x + 128 := by
  obtain ⟨a, rfl⟩ := Int.eq_ofNat_of_zero_le h0
  have h := (bits_nat .i64 62 (by decide) (fun n h0 h1 => by rw [IntKind.wrap_i64]; omega) a 128 (by omega) (by decide)).2
  have e : a ||| 128 = 128 + a := by
    have := Nat.two_pow_add_eq_or_of_lt (i := 7) (b := a) (by omega) 1
    rw [Nat.or_comm]
    simpa using this.symm
  rw [e] at h
  rw [show ((128 : Int)) = ((128 : Nat) : Int) from rfl, h]
  omega
/-- The bytes of a varint, with as many rounds as are given at most. -/
def uvE : Nat → Int → List Int
  | 0, n => [n % 256]
  | d + 1, n => if n < 128 then [n] else (n % 128 + 128) :: uvE d (n / 128)
def uv (n : Int) : List Int := uvE 6 n
theorem uvE_length (d : Nat) : ∀ n, (uvE d n).length ≤ d + 1 := by
  induction d with
  | zero => intro n; simp [uvE]
  | succ d ih =>
    intro n
    unfold uvE
    split
    · simp
    · have := ih (n / 128)
      simp only [List.length_cons]
      omega
theorem uv_length (n : Int) : (uv n).length ≤ 7 := uvE_length 6 n
theorem uvE_byte (d : Nat) : ∀ n, 0 ≤ n → ∀ x ∈ uvE d n, 0 ≤ x ∧ x ≤ 255 := by
  induction d with
  | zero => intro n h x hx; simp [uvE] at hx; omega
  | succ d ih =>
    intro n h x hx
    unfold uvE at hx
    split at hx
    · simp at hx; omega
    · rcases List.mem_cons.1 hx with h1 | h1
      · omega
      · exact ih (n / 128) (by omega) x h1
theorem spec_uv_loop (d : Nat) : ∀ (n : Int) (o : List Int), 0 ≤ n → n < 128 ^ (d + 1) → n ≤ 1000000000000 → o.length + d + 1 < 140737488355328 → Ev (fun k => spec_AppendUvarint.l0 k n o) (o ++ uvE d n) := by
  induction d with
  | zero =>
    intro n o h0 h1 hm hl
    have h1' : n < 128 := by simpa using h1
    refine Ev.step (f := fun _ => some (o ++ uvE 0 n)) (fun k => ?_) (Ev.now _)
    simp only [spec_AppendUvarint.l0, uvE]
    rw [if_neg (by omega), if_pos (by omega)]
  | succ d ih =>
    intro n o h0 h1 hm hl
    unfold uvE
    by_cases h : n < 128
    · rw [if_pos h]
      refine Ev.step (f := fun _ => some (o ++ [n])) (fun k => ?_) (Ev.now _)
      simp only [spec_AppendUvarint.l0]
      rw [if_neg (by omega), if_pos (by omega), show n % 256 = n from by omega]
    · rw [if_neg h]
      have h2 : n / 128 < 128 ^ (d + 1) := by
        rw [Int.pow_succ] at h1
        omega
      have hi := ih (n / 128) (o ++ [n % 128 + 128]) (by omega) h2 (by omega) (by simp only [List.length_append, List.length_cons, List.length_nil]; omega)
      rw [List.append_assoc] at hi
      refine Ev.step (f := fun k => spec_AppendUvarint.l0 k (n / 128) (o ++ [n % 128 + 128])) (fun k => ?_) hi
      simp only [spec_AppendUvarint.l0]
      rw [if_pos (by omega), if_pos (by omega), and127 n h0 (by omega), or128 _ (by omega) (by omega), show (n % 128 + 128) % 256 = n % 128 + 128 from by omega]
theorem impl_uv_loop (d : Nat) : ∀ (n : Int) (o : List Int), 0 ≤ n → n < 128 ^ (d + 1) → n ≤ 1000000000000 → o.length + d + 1 < 140737488355328 → Ev (fun k => impl_AppendUvarint.l0 k n o) (o ++ uvE d n) := by
  induction d with
  | zero =>
    intro n o h0 h1 hm hl
    have h1' : n < 128 := by simpa using h1
    refine Ev.step (f := fun _ => some (o ++ uvE 0 n)) (fun k => ?_) (Ev.now _)
    simp only [impl_AppendUvarint.l0, uvE]
    rw [if_neg (by omega), if_pos (by omega)]
  | succ d ih =>
    intro n o h0 h1 hm hl
    unfold uvE
    by_cases h : n < 128
    · rw [if_pos h]
      refine Ev.step (f := fun _ => some (o ++ [n])) (fun k => ?_) (Ev.now _)
      simp only [impl_AppendUvarint.l0]
      rw [if_neg (by omega), if_pos (by omega), show n % 256 = n from by omega]
    · rw [if_neg h]
      have h2 : n / 128 < 128 ^ (d + 1) := by
        rw [Int.pow_succ] at h1
        omega
      have hi := ih (n / 128) (o ++ [n % 128 + 128]) (by omega) h2 (by omega) (by simp only [List.length_append, List.length_cons, List.length_nil]; omega)
      rw [List.append_assoc] at hi
      refine Ev.step (f := fun k => impl_AppendUvarint.l0 k (n / 128) (o ++ [n % 128 + 128])) (fun k => ?_) hi
      simp only [impl_AppendUvarint.l0]
      rw [if_pos (by omega), if_pos (by omega), Int.tdiv_eq_ediv_of_nonneg h0, Int.tmod_eq_emod_of_nonneg h0, wrapS (by omega) (by omega), wrapS (by omega) (by omega), show (n % 128 + 128) % 256 = n % 128 + 128 from by omega]
def appU (b : List Int) (n : Int) : List Int := if 0 ≤ n ∧ n ≤ 1000000000000 then b ++ uv n else b
theorem appU_length (b : List Int) (n : Int) : (appU b n).length ≤ b.length + 7 := by
  unfold appU
  have := uv_length n
  split
  · rw [List.length_append]; omega
  · omega
theorem spec_AppendUvarint_ev (b : List Int) (n : Int) (hl : b.length ≤ 70368744177664) : Ev (fun k => spec_AppendUvarint.f k b n) (appU b n) := by
  unfold spec_AppendUvarint.f appU uv
  simp only [Option.bind_some, List.nil_append, List.length_nil, spec_l1In_is]
  by_cases h : 0 ≤ n ∧ n ≤ 1000000000000
  · simp only [h, decide_true, if_true, and_self]
    simp only [if_pos (show 0 + b.length < 140737488355328 from by omega)]
    exact spec_uv_loop 6 n b h.1 (by simp; omega) h.2 (by omega)
  · simp only [h, decide_false, Bool.false_eq_true, if_false]
    simp only [if_pos (show 0 + b.length < 140737488355328 from by omega)]
    exact Ev.now _
theorem impl_AppendUvarint_ev (b : List Int) (n : Int) (hl : b.length ≤ 70368744177664) : Ev (fun k => impl_AppendUvarint.f k b n) (appU b n) := by
  unfold impl_AppendUvarint.f appU uv
  simp only [Option.bind_some, List.nil_append, List.length_nil, impl_InRange_is]
  by_cases h : 0 ≤ n ∧ n ≤ 1000000000000
  · simp only [h, decide_true, if_true, and_self]
    simp only [if_pos (show 0 + b.length < 140737488355328 from by omega)]
    exact impl_uv_loop 6 n b h.1 (by simp; omega) h.2 (by omega)
  · simp only [h, decide_false, Bool.false_eq_true, if_false]
    simp only [if_pos (show 0 + b.length < 140737488355328 from by omega)]
    exact Ev.now _

def hgo (d : Int) (l : List Int) : Int := l.foldl (fun d v => (d * 1000003 + v % 2147483647 + 13) % 2147483647) d
def hashOf (l : List Int) : Int := hgo 11 l
def khash (a : Int) (l : List Int) : Int := hashOf ([a] ++ l ++ [a])
theorem hgo_range (l : List Int) : ∀ d, 0 ≤ d → d < 2147483647 → 0 ≤ hgo d l ∧ hgo d l < 2147483647 := by
  induction l with
  | nil => intro d h1 h2; exact ⟨h1, h2⟩
  | cons v l ih => intro d h1 h2; exact ih ((d * 1000003 + v % 2147483647 + 13) % 2147483647) (by omega) (by omega)
theorem khash_range (a : Int) (l : List Int) : 0 ≤ khash a l ∧ khash a l < 2147483647 := hgo_range _ 11 (by omega) (by omega)
theorem drop_rd (l : List Int) (i : Int) (h0 : 0 ≤ i) (h1 : i < l.length) : l.drop i.toNat = rd l i :: l.drop (i + 1).toNat := by
  rw [show (i + 1).toNat = i.toNat + 1 from by omega, List.drop_eq_getElem_cons (by omega)]
  congr 1
  simp [rd, List.getD_eq_getElem?_getD, List.getElem?_eq_getElem (show i.toNat < l.length by omega)]
theorem hash_round (d v : Int) (h1 : 0 ≤ d) (h2 : d < 2147483647) : Int.tmod (wrap64 ((wrap64 ((wrap64 (d * 1000003)) + v % 2147483647)) + 13)) 2147483647 = (d * 1000003 + v % 2147483647 + 13) % 2147483647 := by
  rw [wrapS (x := d * 1000003) (by omega) (by omega), wrapS (x := d * 1000003 + v % 2147483647) (by omega) (by omega), wrapS (by omega) (by omega), Int.tmod_eq_emod_of_nonneg (by omega)]

def encI (b : List Int) (l : List Int) : List Int := l.foldl appU b
theorem encI_length (l : List Int) : ∀ b, (encI b l).length ≤ b.length + 7 * l.length := by
  induction l with
  | nil => intro b; simp [encI]
  | cons n l ih =>
    intro b
    have h1 := ih (appU b n)
    have h2 := appU_length b n
    simp only [encI, List.foldl_cons, List.length_cons] at *
    omega

theorem impl_EncodeInts_ev (l : List Int) (hl : l.length ≤ 8388608) : Ev (fun k => impl_EncodeInts.f k l) (encI [] l) := by
  have key : ∀ (n : Nat) (o : List Int) (i : Int), 0 ≤ i → i + n = l.length → o.length ≤ 7 * i.toNat → Ev (fun k => impl_EncodeInts.l0 k o l (l.length : Int) i) (encI o (l.drop i.toNat)) := by
    intro n
    induction n with
    | zero =>
      intro o i h0 hi ho
      rw [List.drop_eq_nil_of_le (by omega)]
      refine Ev.step (f := fun _ => some o) (fun k => ?_) (Ev.now _)
      simp only [impl_EncodeInts.l0]
      rw [if_neg (by omega)]
    | succ n ih =>
      intro o i h0 hi ho
      have h2 := appU_length o (rd l i)
      have hi2 := ih (appU o (rd l i)) (i + 1) (by omega) (by omega) (by omega)
      rw [drop_rd l i h0 (by omega)]
      refine Ev.step (f := fun k => (impl_AppendUvarint.f k o (rd l i)).bind fun t => impl_EncodeInts.l0 k t l (l.length : Int) (i + 1)) (fun k => ?_) (Ev.bind (impl_AppendUvarint_ev o (rd l i) (by omega)) hi2)
      simp only [impl_EncodeInts.l0]
      rw [if_pos (by omega), if_pos h0, if_pos (by omega), wrapS (by omega) (by omega)]
  exact key l.length [] 0 (by omega) (by omega) (by simp)

theorem spec_EncodeInts_ev (l : List Int) (hl : l.length ≤ 8388608) : Ev (fun k => spec_EncodeInts.f k l) (encI [] l) := by
  have key : ∀ (n : Nat) (o : List Int) (i : Int), 0 ≤ i → i + n = l.length → o.length ≤ 7 * i.toNat → Ev (fun k => spec_EncodeInts.l0 k l o i) (encI o (l.drop i.toNat)) := by
    intro n
    induction n with
    | zero =>
      intro o i h0 hi ho
      rw [List.drop_eq_nil_of_le (by omega)]
      refine Ev.step (f := fun _ => some o) (fun k => ?_) (Ev.now _)
      simp only [spec_EncodeInts.l0]
      rw [if_neg (by omega)]
    | succ n ih =>
      intro o i h0 hi ho
      have h2 := appU_length o (rd l i)
      have hi2 := ih (appU o (rd l i)) (i + 1) (by omega) (by omega) (by omega)
      rw [drop_rd l i h0 (by omega)]
      refine Ev.step (f := fun k => (spec_AppendUvarint.f k o (rd l i)).bind fun t => spec_EncodeInts.l0 k l t (i + 1)) (fun k => ?_) (Ev.bind (spec_AppendUvarint_ev o (rd l i) (by omega)) hi2)
      simp only [spec_EncodeInts.l0]
      rw [if_pos (by omega), if_pos h0, wrapS (by omega) (by omega)]
  exact key l.length [] 0 (by omega) (by omega) (by simp)

theorem laws_toIntS_ev (l : List Int) (hl : l.length ≤ 17592186044416) : Ev (fun k => laws_toIntS.f k l) l := by
  have key : ∀ (d : Nat) (o : List Int) (i : Int), 0 ≤ i → o.length = l.length → i + d = l.length → o.take i.toNat = l.take i.toNat → Ev (fun k => laws_toIntS.l0 k l o i) l := by
    intro d
    induction d with
    | zero =>
      intro o i h0 ho hi ht
      refine Ev.step (f := fun _ => some l) (fun k => ?_) (Ev.now _)
      simp only [laws_toIntS.l0]
      rw [if_neg (by omega), take_all i.toNat ho (by omega) ht]
    | succ d ih =>
      intro o i h0 ho hi ht
      refine Ev.step (f := fun k => laws_toIntS.l0 k l (o.set i.toNat (rd l i)) (i + 1)) (fun k => ?_) (ih _ _ (by omega) (by simpa using ho) (by omega) ?_)
      · simp only [laws_toIntS.l0]
        rw [if_pos (by omega), if_pos h0, if_pos (by omega), wrapS (by omega) (by omega)]
      · rw [show (i + 1).toNat = i.toNat + 1 from by omega]
        exact set_take_succ _ o l i.toNat ho (by omega) ht
  refine Ev.congr (f := fun k => laws_toIntS.l0 k l (List.replicate l.length 0) 0) (fun k => ?_) (key l.length _ 0 (by omega) (by simp) (by omega) (by simp))
  unfold laws_toIntS.f
  rw [if_pos (by omega), if_pos (by omega)]
  rfl

theorem laws_eqIntS_ev (l : List Int) (hl : l.length ≤ 281474976710656) : Ev (fun k => laws_eqIntS.f k l l) true := by
  have key : ∀ (d : Nat) (i : Int), 0 ≤ i → i + d = l.length → Ev (fun k => laws_eqIntS.l0 k l l i) true := by
    intro d
    induction d with
    | zero =>
      intro i h0 hi
      refine Ev.step (f := fun _ => some true) (fun k => ?_) (Ev.now _)
      simp only [laws_eqIntS.l0]
      rw [if_neg (by omega)]
    | succ d ih =>
      intro i h0 hi
      refine Ev.step (f := fun k => laws_eqIntS.l0 k l l (i + 1)) (fun k => ?_) (ih _ (by omega) (by omega))
      simp only [laws_eqIntS.l0]
      rw [if_pos (by omega), if_pos h0, if_pos (by omega), wrapS (by omega) (by omega)]
      simp
  refine Ev.congr (f := fun k => laws_eqIntS.l0 k l l 0) (fun k => ?_) (key l.length 0 (by omega) (by omega))
  unfold laws_eqIntS.f
  rw [if_pos rfl]



theorem laws_eqByteS_ev (l : List Int) (hl : l.length ≤ 281474976710656) : Ev (fun k => laws_eqByteS.f k l l) true := by
  have key : ∀ (d : Nat) (i : Int), 0 ≤ i → i + d = l.length → Ev (fun k => laws_eqByteS.l0 k l l i) true := by
    intro d
    induction d with
    | zero =>
      intro i h0 hi
      refine Ev.step (f := fun _ => some true) (fun k => ?_) (Ev.now _)
      simp only [laws_eqByteS.l0]
      rw [if_neg (by omega)]
    | succ d ih =>
      intro i h0 hi
      refine Ev.step (f := fun k => laws_eqByteS.l0 k l l (i + 1)) (fun k => ?_) (ih _ (by omega) (by omega))
      simp only [laws_eqByteS.l0]
      rw [if_pos (by omega), if_pos h0, if_pos (by omega), wrapS (by omega) (by omega)]
      simp
  refine Ev.congr (f := fun k => laws_eqByteS.l0 k l l 0) (fun k => ?_) (key l.length 0 (by omega) (by omega))
  unfold laws_eqByteS.f
  rw [if_pos rfl]

def markedInt (n : Nat) (a : Int) : List Int := (List.range n).map fun (j : Nat) => a + j
theorem markedInt_length (n : Nat) (a : Int) : (markedInt n a).length = n := by simp [markedInt]
theorem markedInt_at (n : Nat) (a : Int) (j : Nat) (h : j < n) : (markedInt n a).getD j 0 = a + j := by
  simp [markedInt, List.getD_eq_getElem?_getD, h]
theorem laws_markIntS_ev (l : List Int) (a : Int) (ha : 0 ≤ a) (hl : a + l.length ≤ 4611686018427387904) : Ev (fun k => laws_markIntS.f k l a) (a + l.length, markedInt l.length a) := by
  have key : ∀ (d : Nat) (o : List Int) (x i : Int), 0 ≤ i → x = a + i → o.length = l.length → i + d = l.length → o.take i.toNat = (markedInt l.length a).take i.toNat → Ev (fun k => laws_markIntS.l0 k o x i) (a + l.length, markedInt l.length a) := by
    intro d
    induction d with
    | zero =>
      intro o x i h0 hx ho hi ht
      refine Ev.step (f := fun _ => some (a + l.length, markedInt l.length a)) (fun k => ?_) (Ev.now _)
      simp only [laws_markIntS.l0]
      have hm := markedInt_length l.length a
      rw [if_neg (by omega), take_all i.toNat (by omega) (by omega) ht, hx, show i = (l.length : Int) from by omega]
    | succ d ih =>
      intro o x i h0 hx ho hi ht
      have hm := markedInt_length l.length a
      have hat := markedInt_at l.length a i.toNat (by omega)
      rw [show (i.toNat : Int) = i from by omega, ← hx] at hat
      refine Ev.step (f := fun k => laws_markIntS.l0 k (o.set i.toNat ((markedInt l.length a).getD i.toNat 0)) (x + 1) (i + 1)) (fun k => ?_) (ih _ _ _ (by omega) (by omega) (by simpa using ho) (by omega) ?_)
      · simp only [laws_markIntS.l0]
        rw [if_pos (by omega), if_pos h0, wrapS (by omega) (by omega), wrapS (by omega) (by omega), hat]
      · rw [show (i + 1).toNat = i.toNat + 1 from by omega]
        exact set_take_succ 0 o _ i.toNat (by omega) (by omega) ht
  exact key l.length l a 0 (by omega) (by omega) rfl (by omega) (by simp)



def markedByte (n : Nat) (a : Int) : List Int := (List.range n).map fun (j : Nat) => (a + j) % 256
theorem markedByte_length (n : Nat) (a : Int) : (markedByte n a).length = n := by simp [markedByte]
theorem markedByte_at (n : Nat) (a : Int) (j : Nat) (h : j < n) : (markedByte n a).getD j 0 = (a + j) % 256 := by
  simp [markedByte, List.getD_eq_getElem?_getD, h]
theorem laws_markByteS_ev (l : List Int) (a : Int) (ha : 0 ≤ a) (hl : a + l.length ≤ 4611686018427387904) : Ev (fun k => laws_markByteS.f k l a) (a + l.length, markedByte l.length a) := by
  have key : ∀ (d : Nat) (o : List Int) (x i : Int), 0 ≤ i → x = a + i → o.length = l.length → i + d = l.length → o.take i.toNat = (markedByte l.length a).take i.toNat → Ev (fun k => laws_markByteS.l0 k o x i) (a + l.length, markedByte l.length a) := by
    intro d
    induction d with
    | zero =>
      intro o x i h0 hx ho hi ht
      refine Ev.step (f := fun _ => some (a + l.length, markedByte l.length a)) (fun k => ?_) (Ev.now _)
      simp only [laws_markByteS.l0]
      have hm := markedByte_length l.length a
      rw [if_neg (by omega), take_all i.toNat (by omega) (by omega) ht, hx, show i = (l.length : Int) from by omega]
    | succ d ih =>
      intro o x i h0 hx ho hi ht
      have hm := markedByte_length l.length a
      have hat := markedByte_at l.length a i.toNat (by omega)
      rw [show (i.toNat : Int) = i from by omega, ← hx] at hat
      refine Ev.step (f := fun k => laws_markByteS.l0 k (o.set i.toNat ((markedByte l.length a).getD i.toNat 0)) (x + 1) (i + 1)) (fun k => ?_) (ih _ _ _ (by omega) (by omega) (by simpa using ho) (by omega) ?_)
      · simp only [laws_markByteS.l0]
        rw [if_pos (by omega), if_pos h0, wrapS (by omega) (by omega), wrapS (by omega) (by omega), hat]
      · rw [show (i + 1).toNat = i.toNat + 1 from by omega]
        exact set_take_succ 0 o _ i.toNat (by omega) (by omega) ht
  exact key l.length l a 0 (by omega) (by omega) rfl (by omega) (by simp)



theorem laws_heldByteS_ev (n : Nat) (a : Int) (ha : 0 ≤ a) (hl : a + n ≤ 4611686018427387904) : Ev (fun k => laws_heldByteS.f k (markedByte n a) a) (a + n) := by
  have hm := markedByte_length n a
  have key : ∀ (d : Nat) (x i : Int), 0 ≤ i → x = a + i → i + d = n → Ev (fun k => laws_heldByteS.l0 k (markedByte n a) x i) (a + n) := by
    intro d
    induction d with
    | zero =>
      intro x i h0 hx hi
      refine Ev.step (f := fun _ => some (a + n)) (fun k => ?_) (Ev.now _)
      simp only [laws_heldByteS.l0]
      rw [if_neg (by omega), hx, show i = (n : Int) from by omega]
    | succ d ih =>
      intro x i h0 hx hi
      refine Ev.step (f := fun k => laws_heldByteS.l0 k (markedByte n a) (x + 1) (i + 1)) (fun k => ?_) (ih _ _ (by omega) (by omega) (by omega))
      have hat : rd (markedByte n a) i = (markedByte n a).getD i.toNat 0 := rfl
      rw [markedByte_at n a i.toNat (by omega), show (i.toNat : Int) = i from by omega, ← hx] at hat
      simp only [laws_heldByteS.l0]
      rw [if_pos (by omega), if_pos h0, wrapS (by omega) (by omega), wrapS (by omega) (by omega), hat]
      simp
  exact key n a 0 (by omega) (by omega) (by omega)



theorem FnExactEncodeInts : laws_FnExactEncodeInts.Pure := by
  intro a _ _ _
  apply Ev.rounds
  unfold laws_FnExactEncodeInts.f
  by_cases h1 : (a.length : Int) > 1048576
  · simp only [if_pos h1]; exact Ev.now _
  simp only [if_neg h1]
  have hw := encI_length a []
  simp only [List.length_nil, Nat.zero_add] at hw
  refine Ev.bind (laws_toIntS_ev a (by omega)) ?_
  refine Ev.bind (spec_EncodeInts_ev a (by omega)) ?_
  refine Ev.bind (laws_toIntS_ev a (by omega)) ?_
  refine Ev.bind (impl_EncodeInts_ev a (by omega)) ?_
  refine Ev.bind (laws_eqByteS_ev _ (by omega)) ?_
  simp only [if_true, if_false, Bool.false_eq_true, Bool.not_true, Bool.not_false, bne_self_eq_false, eq_self, ite_true, ite_false, reduceIte]
  refine Ev.bind (laws_toIntS_ev a (by omega)) ?_
  refine Ev.bind (laws_eqIntS_ev a (by omega)) ?_
  simp only [if_true, if_false, Bool.false_eq_true, Bool.not_true, Bool.not_false, bne_self_eq_false, eq_self, ite_true, ite_false, reduceIte]
  refine Ev.bind (laws_markIntS_ev a 1 (by omega) (by omega)) ?_
  simp only [one_add_neg, if_true, if_false, Bool.false_eq_true, Bool.not_true, Bool.not_false, bne_self_eq_false, eq_self, ite_true, ite_false, reduceIte]
  refine Ev.bind (laws_eqByteS_ev _ (by omega)) ?_
  simp only [if_true, if_false, Bool.false_eq_true, Bool.not_true, Bool.not_false, bne_self_eq_false, eq_self, ite_true, ite_false, reduceIte]
  refine Ev.step (g := fun k => laws_FnExactEncodeInts.j0 k _ _ _ false) (fun k => by simp only [laws_FnExactEncodeInts.j0]; rfl) ?_
  simp only [if_true, if_false, Bool.false_eq_true, Bool.not_true, Bool.not_false, bne_self_eq_false, eq_self, ite_true, ite_false, reduceIte]
  refine Ev.bind (laws_markByteS_ev _ 1 (by omega) (by omega)) ?_
  refine Ev.bind (laws_heldByteS_ev _ 1 (by omega) (by omega)) ?_
  simp only [one_add_neg, if_true, if_false, Bool.false_eq_true, Bool.not_true, Bool.not_false, bne_self_eq_false, eq_self, ite_true, ite_false, reduceIte]
  refine Ev.bind (laws_toIntS_ev a (by omega)) ?_
  refine Ev.bind (impl_EncodeInts_ev a (by omega)) ?_
  refine Ev.bind (laws_eqByteS_ev _ (by omega)) ?_
  simp only [if_true, if_false, Bool.false_eq_true, Bool.not_true, Bool.not_false, bne_self_eq_false, eq_self, ite_true, ite_false, reduceIte]
  refine Ev.bind (laws_heldByteS_ev _ 1 (by omega) (by omega)) ?_
  simp only [one_add_neg, if_true, if_false, Bool.false_eq_true, Bool.not_true, Bool.not_false, bne_self_eq_false, eq_self, ite_true, ite_false, reduceIte]
  exact Ev.now _

end Go.Proofs.Ytcdiajjadgbngaa.Pure
