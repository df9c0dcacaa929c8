/- FnExactParseInt answers true, for each text. -/
import Derived.Test.YtgdakjleighhcaaDoorQFnExactParseIntx1
set_option linter.unusedVariables false
set_option linter.unusedSimpArgs false
namespace Go.Proofs.YtgdakjleighhcaaDoor.Pure
open Go.RowKit Go.Proofs.YtgdakjleighhcaaDoor.QFnExactParseInt Go.Proofs.YtgdakjleighhcaaDoorW.PrintWords Go.Proofs.YtgdakjleighhcaaDoorW.PrintLast Go.Proofs.YtgdakjleighhcaaDoorW.PrintMore

theorem wrapS {x : Int} (h1 : -9223372036854775808 ≤ x) (h2 : x ≤ 9223372036854775807) : wrap64 x = x := by
  unfold wrap64
  omega
theorem i64wf {x : Int} (h : (Lit.int .i64 x).wf = true) : -9223372036854775808 ≤ x ∧ x ≤ 9223372036854775807 := by
  have h1 : (decide (IntKind.i64.min ≤ x) && decide (x ≤ IntKind.i64.max)) = true := h
  rw [Bool.and_eq_true, decide_eq_true_eq, decide_eq_true_eq] at h1
  exact h1
theorem u8wf {x : Int} (h : (Lit.int .u8 x).wf = true) : 0 ≤ x ∧ x ≤ 255 := by
  have h1 : (decide (IntKind.u8.min ≤ x) && decide (x ≤ IntKind.u8.max)) = true := h
  rw [Bool.and_eq_true, decide_eq_true_eq, decide_eq_true_eq] at h1
  exact h1
/-- What is told of some number of rounds is told of any three together. -/
theorem evNow {α : Type} {g : Option α} {r : α} (h : g = some r) : Ev (fun _ => g) r := ⟨0, fun _ _ => h⟩
theorem one_add_neg (n : Nat) : ((1 : Int) + (n : Int) < 0) = False := by
  simp only [eq_iff_iff, iff_false]
  omega

theorem ba_append (a b : List UInt8) : (⟨a.toArray⟩ : ByteArray) ++ (⟨b.toArray⟩ : ByteArray) = ⟨(a ++ b).toArray⟩ := by
  apply ByteArray.ext
  rw [ByteArray.data_append]
  simp
theorem ba_size (a : List UInt8) : (⟨a.toArray⟩ : ByteArray).size = a.length := by simp [ByteArray.size]
theorem ba_one (n : Nat) : strOfNums [(n : Int)] = (⟨[UInt8.ofNat n].toArray⟩ : ByteArray) := by simp [strOfNums]
/-- The digits of u ahead of what is written. -/
theorem fmt_round (x0 : Int) (neg : Bool) (j : Nat) : ∀ (u : Nat) (l : List UInt8), 1 ≤ u → u < 10 ^ j → l.length + j ≤ 20 → (u : Int) ≤ 9223372036854775808 → (neg = false → (u : Int) ≤ 9223372036854775807) →
    Ev (fun k => spec_FormatInt.l0 k x0 ⟨l.toArray⟩ (if neg then -(u : Int) else u)) ⟨((if x0 < 0 then [45] else []) ++ (Lib.decDigits u ++ l)).toArray⟩ := by
  induction j with
  | zero => intro u l h1 h2; simp at h2; omega
  | succ j ih =>
    intro u l h1 h2 hl hu hn
    have hs : ((if neg then -(u : Int) else u) = 0) = False := by
      simp only [eq_iff_iff, iff_false]
      cases neg <;> simp <;> omega
    have hd : ∃ c : Int, c = ((48 + u % 10 : Nat) : Int) ∧ ((Int.tmod (if neg then -(u : Int) else u) 10 < 0 ∧ (wrap64 (48 + (wrap64 (-(Int.tmod (if neg then -(u : Int) else u) 10))))) % 256 = c) ∨ (¬ Int.tmod (if neg then -(u : Int) else u) 10 < 0 ∧ (wrap64 (48 + (Int.tmod (if neg then -(u : Int) else u) 10))) % 256 = c)) := by
      refine ⟨_, rfl, ?_⟩
      cases neg with
      | true =>
        simp only [if_true, Int.neg_tmod]
        rw [Int.tmod_eq_emod_of_nonneg (by omega)]
        by_cases c : (u : Int) % 10 = 0
        · right
          rw [c, wrapS (by omega) (by omega)]
          omega
        · left
          rw [wrapS (x := - -((u : Int) % 10)) (by omega) (by omega), wrapS (by omega) (by omega)]
          omega
      | false =>
        right
        simp only [Bool.false_eq_true, if_false]
        rw [Int.tmod_eq_emod_of_nonneg (by omega), wrapS (by omega) (by omega)]
        omega
    have hq : wrap64 (Int.tdiv (if neg then -(u : Int) else u) 10) = (if neg then -((u / 10 : Nat) : Int) else ((u / 10 : Nat) : Int)) := by
      cases neg with
      | true =>
        simp only [if_true, Int.neg_tdiv]
        rw [Int.tdiv_eq_ediv_of_nonneg (by omega), wrapS (by omega) (by omega)]
        omega
      | false =>
        simp only [Bool.false_eq_true, if_false]
        rw [Int.tdiv_eq_ediv_of_nonneg (by omega), wrapS (by omega) (by omega)]
        omega
    obtain ⟨c, hc, hd⟩ := hd
    have hsz : (strOfNums [c]).size + (⟨l.toArray⟩ : ByteArray).size ≤ 9223372036854775807 := by
      rw [hc, ba_one, ba_size, ba_size]
      simp
      omega
    have hst : strOfNums [c] ++ (⟨l.toArray⟩ : ByteArray) = ⟨(UInt8.ofNat (48 + u % 10) :: l).toArray⟩ := by
      rw [hc, ba_one, ba_append]
      rfl
    refine Ev.step (f := fun k => spec_FormatInt.l0 k x0 ⟨(UInt8.ofNat (48 + u % 10) :: l).toArray⟩ (if neg then -((u / 10 : Nat) : Int) else ((u / 10 : Nat) : Int))) (fun k => ?_) ?_
    · simp only [spec_FormatInt.l0, hs, if_false]
      rcases hd with ⟨h1, h2⟩ | ⟨h1, h2⟩
      · rw [if_pos h1, h2]
        simp only [Option.bind_some]
        rw [if_pos hsz, hst, hq]
      · rw [if_neg h1, h2]
        simp only [Option.bind_some]
        rw [if_pos hsz, hst, hq]
    · by_cases c10 : u < 10
      · have h0 : u / 10 = 0 := by omega
        have e : Lib.decDigits u = [UInt8.ofNat (48 + u)] := by rw [Lib.decDigits, dif_pos c10]
        rw [h0, show u % 10 = u from by omega, e]
        refine Ev.step (f := fun _ => some ⟨((if x0 < 0 then [45] else []) ++ ([UInt8.ofNat (48 + u)] ++ l)).toArray⟩) (fun k => ?_) (Ev.now _)
        have hz : ((if neg then -((0 : Nat) : Int) else ((0 : Nat) : Int)) = 0) = True := by cases neg <;> simp
        simp only [spec_FormatInt.l0, hz, if_true]
        by_cases cn : x0 < 0
        · rw [if_pos cn, if_pos cn, if_pos (by rw [ba_size]; simp; omega)]
          rw [show (⟨#[45]⟩ : ByteArray) = ⟨([45] : List UInt8).toArray⟩ from rfl, ba_append]
          rfl
        · rw [if_neg cn, if_neg cn]
          rfl
      · have e : Lib.decDigits u = Lib.decDigits (u / 10) ++ [UInt8.ofNat (48 + u % 10)] := by rw [Lib.decDigits, dif_neg c10]
        have hp : u / 10 < 10 ^ j := by rw [Nat.pow_succ] at h2; omega
        have hi := ih (u / 10) (UInt8.ofNat (48 + u % 10) :: l) (by omega) hp (by simp; omega) (by omega) (fun _ => by omega)
        rw [e, List.append_assoc, List.singleton_append]
        exact hi
theorem spec_FormatInt_ev (a : Int) (h0 : -9223372036854775808 ≤ a) (h1 : a ≤ 9223372036854775807) : Ev (fun k => spec_FormatInt.f k a) ⟨(Lib.itoa a).toArray⟩ := by
  unfold spec_FormatInt.f
  by_cases c : a = 0
  · subst c
    simp only [if_true]
    have e : Lib.itoa 0 = [48] := by
      unfold Lib.itoa
      rw [if_neg (by decide), Lib.decDigits, dif_pos (by decide)]
      rfl
    rw [e]
    exact Ev.now _
  · simp only [if_neg c]
    have hp : (10 : Nat) ^ 19 = 10000000000000000000 := by decide
    by_cases cn : a < 0
    · have h := fmt_round a true 19 a.natAbs [] (by omega) (by rw [hp]; omega) (by simp) (by omega) (fun h => by cases h)
      rw [if_pos rfl, if_pos cn, List.append_nil] at h
      rw [show -(a.natAbs : Int) = a from by omega] at h
      have e : Lib.itoa a = [45] ++ Lib.decDigits a.natAbs := by unfold Lib.itoa; rw [if_pos cn]; rfl
      rw [e]
      exact h
    · have h := fmt_round a false 19 a.natAbs [] (by omega) (by rw [hp]; omega) (by simp) (by omega) (fun _ => by omega)
      rw [if_neg (by decide), if_neg cn, List.append_nil, List.nil_append] at h
      rw [show (a.natAbs : Int) = a from by omega] at h
      have e : Lib.itoa a = Lib.decDigits a.natAbs := by unfold Lib.itoa; rw [if_neg cn]; congr 1; omega
      rw [e]
      exact h
theorem impl_FormatInt_is (a : Int) (h0 : -9223372036854775808 ≤ a) (h1 : a ≤ 9223372036854775807) : impl_FormatInt.f a = some ⟨(Lib.itoa a).toArray⟩ := by
  unfold impl_FormatInt.f
  rw [if_pos h0, if_pos h1]

theorem impl_InRange_is (a b c : Int) : impl_InRange.f a b c = some (decide (b ≤ a ∧ a ≤ c)) := by
  unfold impl_InRange.f
  by_cases h : b ≤ a <;> simp [h]

theorem spec_l1In_is (a b c : Int) : spec_l1In.f a b c = some (decide (b ≤ a ∧ a ≤ c)) := by
  unfold spec_l1In.f
  by_cases h : b ≤ a <;> simp [h]

def pIend (s : ByteArray) (o : Option Nat) : Int × Bool := match o with
  | none => (0, false)
  | some n => if (n : Int) > 1000000000000 then (0, false) else if (⟨(Lib.itoa n).toArray⟩ : ByteArray).toList = s.toList then ((n : Int), true) else (0, false)
def pI (s : ByteArray) : Int × Bool := if 1 ≤ s.size ∧ s.size ≤ 13 then pIend s (Lib.decFrom 0 s.data.toList) else (0, false)
theorem decDigits_digit (u : Nat) : ∀ x ∈ Lib.decDigits u, 48 ≤ x.toNat ∧ x.toNat ≤ 57 := by
  induction u using Nat.strongRecOn with
  | _ u ih =>
    intro x hx
    by_cases h : u < 10
    · rw [Lib.decDigits, dif_pos h] at hx
      simp only [List.mem_cons, List.not_mem_nil, or_false] at hx
      subst hx
      rw [UInt8.toNat_ofNat']
      omega
    · rw [Lib.decDigits, dif_neg h] at hx
      rcases List.mem_append.1 hx with hx | hx
      · exact ih (u / 10) (by omega) x hx
      · simp only [List.mem_cons, List.not_mem_nil, or_false] at hx
        subst hx
        rw [UInt8.toNat_ofNat']
        omega
theorem itoa_first (n : Nat) (b : UInt8) (r : List UInt8) (hb : ¬ (48 ≤ b.toNat ∧ b.toNat ≤ 57)) : Lib.itoa n ≠ b :: r := by
  intro h
  have e : Lib.itoa (n : Int) = Lib.decDigits n := by unfold Lib.itoa; rw [if_neg (by omega)]; congr 1
  rw [e] at h
  exact hb (decDigits_digit n b (by rw [h]; simp))
theorem bt_at (s : ByteArray) (i : Nat) (b : UInt8) (r : List UInt8) (h : s.data.toList.drop i = b :: r) : bt s (i : Int) = (b.toNat : Int) ∧ i < s.size ∧ s.data.toList.drop (i + 1) = r := by
  have hl : i < s.data.toList.length := by
    refine Classical.byContradiction fun hn => ?_
    rw [List.drop_eq_nil_of_le (by omega)] at h
    cases h
  rw [List.drop_eq_getElem_cons hl] at h
  injection h with h1 h2
  refine ⟨?_, by rw [← data_length]; exact hl, h2⟩
  rw [← rd_bytesOf]
  simp only [rd, bytesOf, Int.toNat_natCast, List.getD_eq_getElem?_getD, List.getElem?_map, List.getElem?_eq_getElem hl, Option.map_some, Option.getD_some, h1]
theorem parse_loop (s : ByteArray) (r : List UInt8) : ∀ (i acc : Nat), s.data.toList.drop i = r → s.size = i + r.length → acc < 10 ^ i → s.size ≤ 13 →
    Ev (fun k => spec_ParseInt.l0 k s (acc : Int) (i : Int)) (pIend s (Lib.decFrom acc r)) := by
  induction r with
  | nil =>
    intro i acc hd hs ha hl
    have hp : 10 ^ i ≤ 10 ^ 13 := Nat.pow_le_pow_right (by decide) (by simp at hs; omega)
    have e13 : (10 : Nat) ^ 13 = 10000000000000 := by decide
    simp only [List.length_nil, Nat.add_zero] at hs
    simp only [Lib.decFrom, pIend]
    by_cases c : (acc : Int) > 1000000000000
    · rw [if_pos c]
      refine Ev.step (f := fun _ => some (0, false)) (fun k => ?_) (Ev.now _)
      simp only [spec_ParseInt.l0]
      rw [if_neg (by omega), if_pos c]
    · rw [if_neg c]
      refine Ev.step (f := fun k => (spec_FormatInt.f k acc).bind fun t109 => (if t109.toList = s.toList then (some ((acc : Int), true)) else (some (0, false)))) (fun k => ?_) ?_
      · simp only [spec_ParseInt.l0]
        rw [if_neg (by omega), if_neg c]
      · refine Ev.bind (spec_FormatInt_ev (acc : Int) (by omega) (by omega)) ?_
        by_cases c2 : (⟨(Lib.itoa acc).toArray⟩ : ByteArray).toList = s.toList
        · simp only [if_pos c2]; exact Ev.now _
        · simp only [if_neg c2]; exact Ev.now _
  | cons b r ih =>
    intro i acc hd hs ha hl
    obtain ⟨h1, h2, h3⟩ := bt_at s i b r hd
    have hp : 10 ^ i ≤ 10 ^ 13 := Nat.pow_le_pow_right (by decide) (by simp at hs; omega)
    have e13 : (10 : Nat) ^ 13 = 10000000000000 := by decide
    have hbl := b.toNat_lt
    by_cases c : 48 ≤ b.toNat ∧ b.toNat ≤ 57
    · have e : Lib.decFrom acc (b :: r) = Lib.decFrom (acc * 10 + (b.toNat - 48)) r := by simp only [Lib.decFrom, Lib.digitVal, if_pos c]
      rw [e]
      have hi := ih (i + 1) (acc * 10 + (b.toNat - 48)) h3 (by simp at hs; omega) (by rw [Nat.pow_succ]; omega) hl
      refine Ev.step (fun k => ?_) hi
      simp only [spec_ParseInt.l0, h1]
      rw [if_pos (by omega), if_pos (by omega), wrapS (x := (b.toNat : Int)) (by omega) (by omega), spec_l1In_is]
      simp only [Option.bind_some, show ((48 : Int) ≤ b.toNat ∧ (b.toNat : Int) ≤ 57) = True from by simp only [eq_iff_iff, iff_true]; omega, decide_true, if_true]
      rw [wrapS (x := 10 * (acc : Int)) (by omega) (by omega), wrapS (x := 10 * (acc : Int) + ((b.toNat : Int) - 48) % 256) (by omega) (by omega), wrapS (by omega) (by omega)]
      congr 1
      omega
    · have e : Lib.decFrom acc (b :: r) = none := by simp only [Lib.decFrom, Lib.digitVal, if_neg c]
      rw [e]
      refine Ev.step (f := fun _ => some (0, false)) (fun k => ?_) (Ev.now _)
      simp only [spec_ParseInt.l0, h1]
      rw [if_pos (by omega), if_pos (by omega), wrapS (x := (b.toNat : Int)) (by omega) (by omega), spec_l1In_is]
      simp only [Option.bind_some, show ((48 : Int) ≤ b.toNat ∧ (b.toNat : Int) ≤ 57) = False from by simp only [eq_iff_iff, iff_false]; omega, decide_false, Bool.false_eq_true, if_false]
theorem spec_ParseInt_ev (s : ByteArray) (hs : s.size ≤ 140737488351232) : Ev (fun k => spec_ParseInt.f k s) (pI s) := by
  unfold spec_ParseInt.f pI
  simp only [spec_l1In_is, Option.bind_some]
  by_cases c : 1 ≤ s.size ∧ s.size ≤ 13
  · have hc : ((1 : Int) ≤ (s.size : Int) ∧ (s.size : Int) ≤ 13) := by omega
    rw [if_pos c]
    simp only [hc, and_self, decide_true, if_true]
    exact parse_loop s s.data.toList 0 0 (by simp) (by rw [data_length]; omega) (by decide) c.2
  · have hc : ¬ ((1 : Int) ≤ (s.size : Int) ∧ (s.size : Int) ≤ 13) := by omega
    rw [if_neg c]
    simp only [hc, decide_false, Bool.false_eq_true, if_false]
    exact Ev.now _
theorem impl_ParseInt_is (s : ByteArray) : impl_ParseInt.f s = some (pI s) := by
  unfold impl_ParseInt.f pI
  by_cases c : (s.size : Int) > 13
  · rw [if_pos c, if_neg (by omega)]
  · rw [if_neg c]
    have hlen := data_length s
    cases hl : s.data.toList with
    | nil =>
      rw [hl] at hlen
      simp only [Lib.atoi]
      rw [if_neg (by simp at hlen; omega)]
    | cons b r =>
      rw [hl, List.length_cons] at hlen
      rw [if_pos (by omega)]
      have big : ∀ m : Nat, Lib.decFrom 0 (b :: r) = some m → m < 10 ^ (r.length + 1) := fun m hm => by have := Lib.decFrom_lt (b :: r) 0 m hm; simpa using this
      have e13 : (10 : Nat) ^ 13 = 10000000000000 := by decide
      have sgn : ∀ (m : Nat), Lib.decNat r = some m → m < 10000000000000 := fun m hm => by
        have hd : Lib.decFrom 0 r = some m := by
          unfold Lib.decNat at hm
          split at hm
          · cases hm
          · exact hm
        have h1 := Lib.decFrom_lt r 0 m hd
        have hp : 10 ^ r.length ≤ 10 ^ 13 := Nat.pow_le_pow_right (by decide) (by omega)
        omega
      have hne : ∀ n : Nat, ¬ (48 ≤ b.toNat ∧ b.toNat ≤ 57) → ¬ (⟨(Lib.itoa n).toArray⟩ : ByteArray).toList = s.toList := by
        intro n hb h
        rw [ByteArray.toList_eq, ByteArray.toList_eq, hl] at h
        exact itoa_first n b r hb (by simpa using h)
      by_cases c45 : b = 45
      · subst c45
        have e : Lib.decFrom 0 ((45 : UInt8) :: r) = none := rfl
        rw [e]
        simp only [Lib.atoi, beq_self_eq_true, if_true, pIend]
        cases hm : Lib.decNat r with
        | none => rfl
        | some m =>
          have hb := sgn m hm
          simp only [Option.map_some, impl_InRange_is, Option.bind_some]
          by_cases c0 : m = 0
          · subst c0
            simp only [impl_FormatInt_is (-((0 : Nat) : Int)) (by omega) (by omega), Option.bind_some]
            have hz := hne 0 (by decide)
            have e0 : (-((0 : Nat) : Int)) = ((0 : Nat) : Int) := rfl
            rw [e0, if_neg hz]
            simp
          · simp only [show ((0 : Int) ≤ -(m : Int) ∧ -(m : Int) ≤ 1000000000000) = False from by simp only [eq_iff_iff, iff_false]; omega, decide_false, Bool.false_eq_true, if_false]
      · by_cases c43 : b = 43
        · subst c43
          have e : Lib.decFrom 0 ((43 : UInt8) :: r) = none := rfl
          rw [e]
          have e1 : Lib.atoi ((43 : UInt8) :: r) = (Lib.decNat r).map fun (m : Nat) => (m : Int) := rfl
          rw [e1]
          simp only [pIend]
          cases hm : Lib.decNat r with
          | none => rfl
          | some m =>
            have hb := sgn m hm
            simp only [Option.map_some, impl_InRange_is, Option.bind_some, impl_FormatInt_is (m : Int) (by omega) (by omega)]
            have hz := hne m (by decide)
            rw [if_neg hz]
            simp
        · have e1 : Lib.atoi (b :: r) = (Lib.decFrom 0 (b :: r)).map fun (m : Nat) => (m : Int) := by
            simp only [Lib.atoi, Lib.decNat, List.isEmpty_cons, Bool.false_eq_true, if_false]
            rw [if_neg (by simpa using c45), if_neg (by simpa using c43)]
          rw [e1]
          cases hm : Lib.decFrom 0 (b :: r) with
          | none => rfl
          | some m =>
            have hb := big m hm
            have hp : 10 ^ (r.length + 1) ≤ 10 ^ 13 := Nat.pow_le_pow_right (by decide) (by omega)
            simp only [Option.map_some, impl_InRange_is, Option.bind_some, impl_FormatInt_is (m : Int) (by omega) (by omega), pIend]
            by_cases cm : (m : Int) > 1000000000000
            · simp only [show ((0 : Int) ≤ (m : Int) ∧ (m : Int) ≤ 1000000000000) = False from by simp only [eq_iff_iff, iff_false]; omega, decide_false, Bool.false_eq_true, if_false, if_pos cm]
            · simp only [show ((0 : Int) ≤ (m : Int) ∧ (m : Int) ≤ 1000000000000) = True from by simp only [eq_iff_iff, iff_true]; omega, decide_true, if_true, if_neg cm]
              by_cases ct : (⟨(Lib.itoa m).toArray⟩ : ByteArray).toList = s.toList
              · rw [if_pos ct, if_pos ct]
              · rw [if_neg ct, if_neg ct]

theorem FnExactParseInt : laws_FnExactParseInt.Pure := by
  intro s hs
  apply Ev.rounds
  unfold laws_FnExactParseInt.f
  by_cases h1 : (s.size : Int) > 1048576
  · simp only [if_pos h1]; exact Ev.now _
  simp only [if_neg h1]
  refine Ev.bind (spec_ParseInt_ev s hs) ?_
  simp only [impl_ParseInt_is, Option.bind_some]
  simp only [if_true, if_false, Bool.false_eq_true, Bool.not_true, Bool.not_false, bne_self_eq_false, eq_self, ite_true, ite_false, reduceIte]
  exact Ev.now _

end Go.Proofs.YtgdakjleighhcaaDoor.Pure
