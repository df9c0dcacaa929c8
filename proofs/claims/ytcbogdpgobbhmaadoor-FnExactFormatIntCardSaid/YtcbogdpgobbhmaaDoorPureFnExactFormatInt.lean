/- FnExactFormatInt answers true, for each number that an int holds. -/
import Derived.Test.YtcbogdpgobbhmaaDoorQFnExactFormatIntx1
set_option linter.unusedVariables false
set_option linter.unusedSimpArgs false
namespace Go.Proofs.YtcbogdpgobbhmaaDoor.Pure
open Go.RowKit Go.Proofs.YtcbogdpgobbhmaaDoor.QFnExactFormatInt Go.Proofs.YtcbogdpgobbhmaaDoorW.PrintWords Go.Proofs.YtcbogdpgobbhmaaDoorW.PrintLast Go.Proofs.YtcbogdpgobbhmaaDoorW.PrintMore

theorem wrapS {x : Int} (h1 : -9223372036854775808 ≤ x) (h2 : x ≤ 9223372036854775807) : wrap64 x = x := by
  unfold wrap64
  omega
theorem i64wf {x : Int} (h : (Lit.int .i64 x).wf = true) : -9223372036854775808 ≤ x ∧ x ≤ 9223372036854775807 := by
  have h1 : (decide (IntKind.i64.min ≤ x) && decide (x ≤ IntKind.i64.max)) = true := h
  rw [Bool.and_eq_true, decide_eq_true_eq, decide_eq_true_eq] at h1
  exact h1
theorem u8wf {x : Int} (h : (Lit.int .u8 x).wf = true) : 0 ≤ x ∧ x ≤ 255 := by
  have h1 : (decide (IntKind.u8.min ≤ x) && decide (x ≤ IntKind.u8.max)) = true := h
  rw [Bool.and_eq_true, decide_eq_true_eq, decide_eq_true_eq] at h1
  exact h1
/-- What is told of some number of rounds is told of any three together. -/
theorem evNow {α : Type} {g : Option α} {r : α} (h : g = some r) : Ev (fun _ => g) r := ⟨0, fun _ _ => h⟩
theorem one_add_neg (n : Nat) : ((1 : Int) + (n : Int) < 0) = False := by
  simp only [eq_iff_iff, iff_false]
  omega

theorem ba_append (a b : List UInt8) : (⟨a.toArray⟩ : ByteArray) ++ (⟨b.toArray⟩ : ByteArray) = ⟨(a ++ b).toArray⟩ := by
  apply ByteArray.ext
  rw [ByteArray.data_append]
  simp
theorem ba_size (a : List UInt8) : (⟨a.toArray⟩ : ByteArray).size = a.length := by simp [ByteArray.size]
theorem ba_one (n : Nat) : strOfNums [(n : Int)] = (⟨[UInt8.ofNat n].toArray⟩ : ByteArray) := by simp [strOfNums]
/-- The digits of u ahead of what is written. -/
theorem fmt_round (x0 : Int) (neg : Bool) (j : Nat) : ∀ (u : Nat) (l : List UInt8), 1 ≤ u → u < 10 ^ j → l.length + j ≤ 20 → (u : Int) ≤ 9223372036854775808 → (neg = false → (u : Int) ≤ 9223372036854775807) →
    Ev (fun k => spec_FormatInt.l0 k x0 ⟨l.toArray⟩ (if neg then -(u : Int) else u)) ⟨((if x0 < 0 then [45] else []) ++ (Lib.decDigits u ++ l)).toArray⟩ := by
  induction j with
  | zero => intro u l h1 h2; simp at h2; omega
  | succ j ih =>
    intro u l h1 h2 hl hu hn
    have hs : ((if neg then -(u : Int) else u) = 0) = False := by
      simp only [eq_iff_iff, iff_false]
      cases neg <;> simp <;> omega
    have hd : ∃ c : Int, c = ((48 + u % 10 : Nat) : Int) ∧ ((Int.tmod (if neg then -(u : Int) else u) 10 < 0 ∧ (wrap64 (48 + (wrap64 (-(Int.tmod (if neg then -(u : Int) else u) 10))))) % 256 = c) ∨ (¬ Int.tmod (if neg then -(u : Int) else u) 10 < 0 ∧ (wrap64 (48 + (Int.tmod (if neg then -(u : Int) else u) 10))) % 256 = c)) := by
      refine ⟨_, rfl, ?_⟩
      cases neg with
      | true =>
        simp only [if_true, Int.neg_tmod]
        rw [Int.tmod_eq_emod_of_nonneg (by omega)]
        by_cases c : (u : Int) % 10 = 0
        · right
          rw [c, wrapS (by omega) (by omega)]
          omega
        · left
          rw [wrapS (x := - -((u : Int) % 10)) (by omega) (by omega), wrapS (by omega) (by omega)]
          omega
      | false =>
        right
        simp only [Bool.false_eq_true, if_false]
        rw [Int.tmod_eq_emod_of_nonneg (by omega), wrapS (by omega) (by omega)]
        omega
    have hq : wrap64 (Int.tdiv (if neg then -(u : Int) else u) 10) = (if neg then -((u / 10 : Nat) : Int) else ((u / 10 : Nat) : Int)) := by
      cases neg with
      | true =>
        simp only [if_true, Int.neg_tdiv]
        rw [Int.tdiv_eq_ediv_of_nonneg (by omega), wrapS (by omega) (by omega)]
        omega
      | false =>
        simp only [Bool.false_eq_true, if_false]
        rw [Int.tdiv_eq_ediv_of_nonneg (by omega), wrapS (by omega) (by omega)]
        omega
    obtain ⟨c, hc, hd⟩ := hd
    have hsz : (strOfNums [c]).size + (⟨l.toArray⟩ : ByteArray).size ≤ 9223372036854775807 := by
      rw [hc, ba_one, ba_size, ba_size]
      simp
      omega
    have hst : strOfNums [c] ++ (⟨l.toArray⟩ : ByteArray) = ⟨(UInt8.ofNat (48 + u % 10) :: l).toArray⟩ := by
      rw [hc, ba_one, ba_append]
      rfl
    refine Ev.step (f := fun k => spec_FormatInt.l0 k x0 ⟨(UInt8.ofNat (48 + u % 10) :: l).toArray⟩ (if neg then -((u / 10 : Nat) : Int) else ((u / 10 : Nat) : Int))) (fun k => ?_) ?_
    · simp only [spec_FormatInt.l0, hs, if_false]
      rcases hd with ⟨h1, h2⟩ | ⟨h1, h2⟩
      · rw [if_pos h1, h2]
        simp only [Option.bind_some]
        rw [if_pos hsz, hst, hq]
      · rw [if_neg h1, h2]
        simp only [Option.bind_some]
        rw [if_pos hsz, hst, hq]
    · by_cases c10 : u < 10
      · have h0 : u / 10 = 0 := by omega
        have e : Lib.decDigits u = [UInt8.ofNat (48 + u)] := by rw [Lib.decDigits, dif_pos c10]
        rw [h0, show u % 10 = u from by omega, e]
        refine Ev.step (f := fun _ => some ⟨((if x0 < 0 then [45] else []) ++ ([UInt8.ofNat (48 + u)] ++ l)).toArray⟩) (fun k => ?_) (Ev.now _)
        have hz : ((if neg then -((0 : Nat) : Int) else ((0 : Nat) : Int)) = 0) = True := by cases neg <;> simp
        simp only [spec_FormatInt.l0, hz, if_true]
        by_cases cn : x0 < 0
        · rw [if_pos cn, if_pos cn, if_pos (by rw [ba_size]; simp; omega)]
          rw [show (⟨#[45]⟩ : ByteArray) = ⟨([45] : List UInt8).toArray⟩ from rfl, ba_append]
          rfl
        · rw [if_neg cn, if_neg cn]
          rfl
      · have e : Lib.decDigits u = Lib.decDigits (u / 10) ++ [UInt8.ofNat (48 + u % 10)] := by rw [Lib.decDigits, dif_neg c10]
        have hp : u / 10 < 10 ^ j := by rw [Nat.pow_succ] at h2; omega
        have hi := ih (u / 10) (UInt8.ofNat (48 + u % 10) :: l) (by omega) hp (by simp; omega) (by omega) (fun _ => by omega)
        rw [e, List.append_assoc, List.singleton_append]
        exact hi
theorem spec_FormatInt_ev (a : Int) (h0 : -9223372036854775808 ≤ a) (h1 : a ≤ 9223372036854775807) : Ev (fun k => spec_FormatInt.f k a) ⟨(Lib.itoa a).toArray⟩ := by
  unfold spec_FormatInt.f
  by_cases c : a = 0
  · subst c
    simp only [if_true]
    have e : Lib.itoa 0 = [48] := by
      unfold Lib.itoa
      rw [if_neg (by decide), Lib.decDigits, dif_pos (by decide)]
      rfl
    rw [e]
    exact Ev.now _
  · simp only [if_neg c]
    have hp : (10 : Nat) ^ 19 = 10000000000000000000 := by decide
    by_cases cn : a < 0
    · have h := fmt_round a true 19 a.natAbs [] (by omega) (by rw [hp]; omega) (by simp) (by omega) (fun h => by cases h)
      rw [if_pos rfl, if_pos cn, List.append_nil] at h
      rw [show -(a.natAbs : Int) = a from by omega] at h
      have e : Lib.itoa a = [45] ++ Lib.decDigits a.natAbs := by unfold Lib.itoa; rw [if_pos cn]; rfl
      rw [e]
      exact h
    · have h := fmt_round a false 19 a.natAbs [] (by omega) (by rw [hp]; omega) (by simp) (by omega) (fun _ => by omega)
      rw [if_neg (by decide), if_neg cn, List.append_nil, List.nil_append] at h
      rw [show (a.natAbs : Int) = a from by omega] at h
      have e : Lib.itoa a = Lib.decDigits a.natAbs := by unfold Lib.itoa; rw [if_neg cn]; congr 1; omega
      rw [e]
      exact h
theorem impl_FormatInt_is (a : Int) (h0 : -9223372036854775808 ≤ a) (h1 : a ≤ 9223372036854775807) : impl_FormatInt.f a = some ⟨(Lib.itoa a).toArray⟩ := by
  unfold impl_FormatInt.f
  rw [if_pos h0, if_pos h1]

theorem FnExactFormatInt : laws_FnExactFormatInt.Pure := by
  intro a ha
  have hr := i64wf ha
  apply Ev.rounds
  unfold laws_FnExactFormatInt.f
  refine Ev.bind (spec_FormatInt_ev a hr.1 hr.2) ?_
  simp only [impl_FormatInt_is a hr.1 hr.2, Option.bind_some, if_true]
  exact Ev.now _

end Go.Proofs.YtcbogdpgobbhmaaDoor.Pure
