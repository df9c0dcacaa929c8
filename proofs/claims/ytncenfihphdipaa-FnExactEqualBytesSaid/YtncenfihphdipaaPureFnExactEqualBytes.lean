/- FnExactEqualBytes answers true, for all two lists of bytes. -/
import Derived.Test.YtncenfihphdipaaPFnExactEqualBytesx1
import Derived.Test.YtncenfihphdipaaWSized
set_option linter.unusedVariables false
set_option linter.unusedSimpArgs false
namespace Go.Proofs.Ytncenfihphdipaa.PrintWords
open Go.ChangeShapes Go.WideShapes
/-- The printed row names the word so; it lies one namespace beside. -/
theorem sized_ints {H : Type} {enc : TypeId × Value → H} {P : Program} {W : World} {base : Nat} {spare : Nat → Bool} {held : Bool} {t e : TypeId} {k : IntKind} {a : Option Addr} {len cap : Nat} {d : DataW H} {ps : List MemPlace} {ts : List TypeId} {ds : List (DataW H)} {j : Nat}
    (hsz : (DataW.weightsEach P ts ds).all (· ≤ reachBytes) = true) (ht : ts[j]? = some t) (hd : ds[j]? = some d) (hu : P.underlying t = some (.slice e)) (he : P.underlying e = some (.int k)) (hc : P.cellsOf e = 1) {B : Nat} (hB : P.bytesOf e = B)
    (h : DataW.Trod enc P W base spare held t (.slice a len cap) d ps) : len * B ≤ 140737488351232 :=
  Go.Proofs.YtncenfihphdipaaW.PrintWords.sized_ints hsz ht hd hu he hc hB h
end Go.Proofs.Ytncenfihphdipaa.PrintWords
namespace Go.Proofs.Ytncenfihphdipaa.Pure
open Go.RowKit Go.Proofs.Ytncenfihphdipaa.PFnExactEqualBytes Go.Proofs.YtncenfihphdipaaW.PrintWords Go.Proofs.YtncenfihphdipaaW.PrintLast Go.Proofs.YtncenfihphdipaaW.PrintMore

theorem wrapS {x : Int} (h1 : -9223372036854775808 ≤ x) (h2 : x ≤ 9223372036854775807) : wrap64 x = x := by
  unfold wrap64
  omega
theorem i64wf {x : Int} (h : (Lit.int .i64 x).wf = true) : -9223372036854775808 ≤ x ∧ x ≤ 9223372036854775807 := by
  have h1 : (decide (IntKind.i64.min ≤ x) && decide (x ≤ IntKind.i64.max)) = true := h
  rw [Bool.and_eq_true, decide_eq_true_eq, decide_eq_true_eq] at h1
  exact h1
theorem u8wf {x : Int} (h : (Lit.int .u8 x).wf = true) : 0 ≤ x ∧ x ≤ 255 := by
  have h1 : (decide (IntKind.u8.min ≤ x) && decide (x ≤ IntKind.u8.max)) = true := h
  rw [Bool.and_eq_true, decide_eq_true_eq, decide_eq_true_eq] at h1
  exact h1
/-- What is told of some number of rounds is told of any three together. -/
theorem evNow {α : Type} {g : Option α} {r : α} (h : g = some r) : Ev (fun _ => g) r := ⟨0, fun _ _ => h⟩

theorem set_take_succ {α : Type} (d : α) (o l : List α) (n : Nat) (ho : o.length = l.length) (hn : n < l.length) (ht : o.take n = l.take n) : (o.set n (l.getD n d)).take (n + 1) = l.take (n + 1) := by
  apply List.ext_getElem?
  intro j
  have hj := congrArg (fun t => t[j]?) ht
  simp only [List.getElem?_take] at hj ⊢
  by_cases h1 : j < n
  · rw [if_pos h1, if_pos h1] at hj
    rw [if_pos (by omega), if_pos (by omega), List.getElem?_set_ne (by omega)]
    exact hj
  · by_cases h2 : j = n
    · subst h2
      rw [if_pos (by omega), if_pos (by omega), List.getElem?_set_self (by omega), List.getElem?_eq_getElem hn, List.getD_eq_getElem?_getD, List.getElem?_eq_getElem hn]
      rfl
    · rw [if_neg (by omega), if_neg (by omega)]
theorem take_all {α : Type} {o l : List α} (n : Nat) (ho : o.length = l.length) (hn : l.length ≤ n) (ht : o.take n = l.take n) : o = l := by
  rw [List.take_of_length_le (by omega), List.take_of_length_le (by omega)] at ht
  exact ht

theorem laws_toByteS_ev (l : List Int) (hl : l.length ≤ 281474976710656) : Ev (fun k => laws_toByteS.f k l) l := by
  have key : ∀ (d : Nat) (o : List Int) (i : Int), 0 ≤ i → o.length = l.length → i + d = l.length → o.take i.toNat = l.take i.toNat → Ev (fun k => laws_toByteS.l0 k l o i) l := by
    intro d
    induction d with
    | zero =>
      intro o i h0 ho hi ht
      refine Ev.step (f := fun _ => some l) (fun k => ?_) (Ev.now _)
      simp only [laws_toByteS.l0]
      rw [if_neg (by omega), take_all i.toNat ho (by omega) ht]
    | succ d ih =>
      intro o i h0 ho hi ht
      refine Ev.step (f := fun k => laws_toByteS.l0 k l (o.set i.toNat (rd l i)) (i + 1)) (fun k => ?_) (ih _ _ (by omega) (by simpa using ho) (by omega) ?_)
      · simp only [laws_toByteS.l0]
        rw [if_pos (by omega), if_pos h0, if_pos (by omega), wrapS (by omega) (by omega)]
      · rw [show (i + 1).toNat = i.toNat + 1 from by omega]
        exact set_take_succ _ o l i.toNat ho (by omega) ht
  refine Ev.congr (f := fun k => laws_toByteS.l0 k l (List.replicate l.length 0) 0) (fun k => ?_) (key l.length _ 0 (by omega) (by simp) (by omega) (by simp))
  unfold laws_toByteS.f
  rw [if_pos (by omega), if_pos (by simpa using hl)]
  rfl

theorem laws_eqByteS_ev (l : List Int) (hl : l.length ≤ 281474976710656) : Ev (fun k => laws_eqByteS.f k l l) true := by
  have key : ∀ (d : Nat) (i : Int), 0 ≤ i → i + d = l.length → Ev (fun k => laws_eqByteS.l0 k l l i) true := by
    intro d
    induction d with
    | zero =>
      intro i h0 hi
      refine Ev.step (f := fun _ => some true) (fun k => ?_) (Ev.now _)
      simp only [laws_eqByteS.l0]
      rw [if_neg (by omega)]
    | succ d ih =>
      intro i h0 hi
      refine Ev.step (f := fun k => laws_eqByteS.l0 k l l (i + 1)) (fun k => ?_) (ih _ (by omega) (by omega))
      simp only [laws_eqByteS.l0]
      rw [if_pos (by omega), if_pos h0, if_pos (by omega), wrapS (by omega) (by omega)]
      simp
  refine Ev.congr (f := fun k => laws_eqByteS.l0 k l l 0) (fun k => ?_) (key l.length 0 (by omega) (by omega))
  unfold laws_eqByteS.f
  rw [if_pos rfl]



theorem FnExactEqualBytes : laws_FnExactEqualBytes.Pure := by
  intro a b _ ha _ _ hb _
  apply Ev.rounds
  unfold laws_FnExactEqualBytes.f
  by_cases h1 : (a.length : Int) > 1048576
  · simp only [if_pos h1]; exact Ev.now _
  by_cases h2 : (b.length : Int) > 1048576
  · simp only [if_neg h1, if_pos h2]; exact Ev.now _
  simp only [if_neg h1, if_neg h2]
  refine Ev.bind (laws_toByteS_ev a (by omega)) ?_
  refine Ev.bind (laws_toByteS_ev b (by omega)) ?_
  refine Ev.bind (evNow (r := (strOfNums a).toList == (strOfNums b).toList) rfl) ?_
  refine Ev.bind (laws_toByteS_ev a (by omega)) ?_
  refine Ev.bind (laws_toByteS_ev b (by omega)) ?_
  refine Ev.bind (evNow (r := (strOfNums a).toList == (strOfNums b).toList) rfl) ?_
  simp only [bne_self_eq_false, Bool.false_eq_true, if_false]
  refine Ev.bind (laws_toByteS_ev a (by omega)) ?_
  refine Ev.bind (laws_eqByteS_ev a (by omega)) ?_
  simp only [if_true]
  refine Ev.bind (laws_toByteS_ev b (by omega)) ?_
  refine Ev.bind (laws_eqByteS_ev b (by omega)) ?_
  simp only [if_true]
  exact Ev.now _

end Go.Proofs.Ytncenfihphdipaa.Pure
