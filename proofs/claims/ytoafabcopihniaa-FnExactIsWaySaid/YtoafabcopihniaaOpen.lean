/- Arguments of laws are opened: a slice of numbers, of bools, of structs of three numbers and a bool. -/
import Derived.Test.YtoafabcopihniaaWMore
import Derived.Deep.Grids
import Derived.Lib.SmallJoins
import Derived.Deep.Slices
import Derived.Deep.Fields
import Derived.ChangeSame
import Derived.OpenShut
import Derived.ProofKit
namespace Go.Proofs.Ytoafabcopihniaa.Open
open Go.RowKit Go.ChangeShapes Go.WideShapes Go.Deep Go.Joins Go.Proofs.YtoafabcopihniaaW.PrintWords
set_option linter.unusedVariables false
section
variable {H : Type} {enc : TypeId × Value → H} {P : Program} {w : World} {base : Nat} {held : Bool}
theorem ints_at {t e : TypeId} {k : IntKind} {fuel : Nat} {cs : List Value} {y : DataW H × List MemPlace} (ht : P.underlying t = some (.slice e)) (he : P.underlying e = some (.int k)) (hc : P.cellsOf e = 1)
    (h : DataW.trod enc P w base (fun _ => true) held fuel t cs = some y) :
    ∃ (A : Option Addr) (l : List Int) (c : Nat), cs = [.slice A l.length c] ∧ Kd.C (Kd.int k) w A l.length l ∧ l.length ≤ c ∧ ∀ x ∈ l, (Lit.int k x).wf = true := by
  rcases open_ints ht he hc h with ⟨hcs, _⟩ | ⟨x, len, c, zs, hcs, _, hl, hm, hz, _, hcell, hwz⟩
  · obtain ⟨l0, hlen, hr0, hm0, hw0, hc0⟩ := ReadsInt.ofRowC (k := k) (w := w) (a := none) (len := 0) (cap := 0) (zs := []) (.inl ⟨rfl, rfl, rfl, rfl⟩)
    exact ⟨none, l0, 0, by rw [← hlen]; exact hcs, by rw [← hlen]; exact Kd.C_of_reads (d := (0 : Int)) (h1 := fun _ => rfl) (by rw [hlen]; rw [← hlen] at hr0 ⊢; exact hr0), hc0, hw0⟩
  · obtain ⟨l0, hlen, hr0, hm0, hw0, hc0⟩ := ReadsInt.ofRowC (k := k) (w := w) (a := some x) (len := len) (cap := c) (zs := zs) (.inr ⟨x, rfl, hl, hm, by simpa using hz, hcell, hwz⟩)
    subst hlen
    exact ⟨some x, l0, c, hcs, Kd.C_of_reads (d := (0 : Int)) (h1 := fun _ => rfl) hr0, hc0, hw0⟩
theorem ints_in {t e : TypeId} {k : IntKind} {fuel : Nat} {v : Value} {y : DataW H × List MemPlace} (ht : P.underlying t = some (.slice e)) (he : P.underlying e = some (.int k)) (hc : P.cellsOf e = 1)
    (h : DataW.trod enc P w base (fun _ => true) held fuel t [v] = some y) :
    ∃ (A : Option Addr) (l : List Int) (c : Nat), v = .slice A l.length c ∧ Kd.C (Kd.int k) w A l.length l ∧ l.length ≤ c ∧ ∀ x ∈ l, (Lit.int k x).wf = true := by
  obtain ⟨A, l, c, hcs, r⟩ := ints_at ht he hc h
  exact ⟨A, l, c, by simpa using hcs, r⟩
theorem ints_of {t e : TypeId} {k : IntKind} {a : Option Addr} {len cap : Nat} {d : DataW H} {p : List MemPlace} (ht : P.underlying t = some (.slice e)) (he : P.underlying e = some (.int k)) (hc : P.cellsOf e = 1)
    (h : DataW.Trod enc P w base (fun _ => true) held t (.slice a len cap) d p) :
    ∃ l : List Int, len = l.length ∧ Kd.C (Kd.int k) w a l.length l ∧ l.length ≤ cap ∧ ∀ x ∈ l, (Lit.int k x).wf = true := by
  obtain ⟨fuel, hf⟩ := h
  obtain ⟨A, l, c, hcs, r⟩ := ints_at ht he hc hf
  simp [Value.cells] at hcs
  obtain ⟨rfl, rfl, rfl⟩ := hcs
  exact ⟨l, rfl, r⟩
theorem bools_of {t e : TypeId} {a : Option Addr} {len cap : Nat} {d : DataW H} {p : List MemPlace} (ht : P.underlying t = some (.slice e)) (he : P.underlying e = some .bool) (hc : P.cellsOf e = 1)
    (h : DataW.Trod enc P w base (fun _ => true) held t (.slice a len cap) d p) :
    ∃ l : List Bool, len = l.length ∧ Kd.C Kd.bool w a l.length l ∧ l.length ≤ cap := by
  obtain ⟨fuel, hf⟩ := h
  rcases open_bools ht he hc hf with ⟨hcs, _⟩ | ⟨x, len', c, B, hcs, _, hl, hm, _, hcell⟩
  · simp [Value.cells] at hcs
    obtain ⟨rfl, rfl, rfl⟩ := hcs
    exact ⟨[], rfl, Kd.C_of_reads (d := false) (h1 := fun _ => rfl) ⟨rfl, by simp, fun h => absurd h (by simp)⟩, by simp⟩
  · simp [Value.cells] at hcs
    obtain ⟨rfl, rfl, rfl⟩ := hcs
    have hb : len ≤ 9223372036854775807 := by
      simp only [maxLen] at hm
      omega
    refine ⟨(List.range len).map B, by simp, Kd.C_of_reads (d := false) (h1 := fun _ => rfl) ⟨rfl, by simpa using hb, fun hn => ⟨x, rfl, fun j hj => ?_⟩⟩, by simpa using hl⟩
    have hj' : j < len := by simpa using hj
    rw [hcell j (by omega)]
    simp [List.getD_eq_getElem?_getD, hj']
theorem open_slice_fields {spare : Nat → Bool} {t e : TypeId} {fs : Array Field} {fuel : Nat} {cs : List Value} {x : DataW H × List MemPlace} (ht : P.underlying t = some (.slice e)) (he : P.underlying e = some (.struct fs))
    (hone : oneCellFields P fs = true) (hC : P.cellsOf e = fs.size) (h : DataW.trod enc P w base spare held fuel t cs = some x) :
    (cs = [.slice none 0 0] ∧ x = (.nil, [])) ∨
    ∃ (a : Addr) (len cap m : Nat), cs = [.slice (some a) len cap] ∧ len ≤ cap ∧ cap ≤ maxLen ∧ m = (if spare a.block then cap else len) ∧
      ∀ i, i < m → ∃ n : Nat, ∀ (j : Nat) (f : Field), fs[j]? = some f → ∃ (v : Value) (y : DataW H × List MemPlace), w.cell? (a.add (i * fs.size + j)) = some v ∧ DataW.trod enc P w base spare held n f.type [v] = some y := by
  rcases open_slice ht h with h0 | ⟨a, len, cap, m, n, D, Pl, hcs, hb, hl, hm, hmm, hx, hi⟩
  · exact .inl h0
  · refine .inr ⟨a, len, cap, m, hcs, hl, hm, hmm, fun i him => ?_⟩
    obtain ⟨cs', hc, ht'⟩ := hi i him
    rw [hC] at hc
    obtain ⟨ys, n', hn', hy, hlen, hyl, hf⟩ := DataW.trod_struct he ht'
    obtain ⟨_, hcl, hat⟩ := World.cells?_some hc
    refine ⟨n', fun j f hj => ?_⟩
    obtain ⟨ho, hk⟩ := hone_of hone j f hj
    have hjl : j < fs.size := (Array.getElem?_eq_some_iff.1 hj).1
    have hcell := hat j hjl
    have hv : cs'[j]? = some (cs'[j]'(by omega)) := List.getElem?_eq_getElem (by omega)
    have h1 := hf j f hj
    rw [ho, hk] at h1
    have hone' : (cs'.drop j).take 1 = [cs'[j]'(by omega)] := by
      rw [List.drop_eq_getElem_cons (by omega)]
      rfl
    rw [hone'] at h1
    have hys : ys[j]? = some (ys[j]'(by omega)) := List.getElem?_eq_getElem (by omega)
    refine ⟨_, _, ?_, h1.trans hys⟩
    rw [← Go.Deep.add_add, hcell, hv]
theorem members_of {t e ti tb : TypeId} {f0 f1 f2 f3 : Field} {a : Option Addr} {len cap : Nat} {d : DataW H} {p : List MemPlace} (ht : P.underlying t = some (.slice e)) (he : P.underlying e = some (.struct #[f0, f1, f2, f3]))
    (h0 : f0.type = ti) (h1 : f1.type = ti) (h2 : f2.type = ti) (h3 : f3.type = tb) (hi : P.underlying ti = some (.int .i64)) (hb : P.underlying tb = some .bool)
    (hone : oneCellFields P #[f0, f1, f2, f3] = true) (hC : P.cellsOf e = 4) (h : DataW.Trod enc P w base (fun _ => true) held t (.slice a len cap) d p) :
    ∃ F : Nat → Int × Int × Int × Bool, len ≤ cap ∧ len ≤ 9223372036854775807 ∧
      (0 < len → ∃ ad, a = some ad ∧ ∀ j, j < len → ∀ m u, [Value.int .i64 (F j).1, .int .i64 (F j).2.1, .int .i64 (F j).2.2.1, .bool (F j).2.2.2][m]? = some u → w.cell? (ad.add (j * 4 + m)) = some u) := by
  obtain ⟨fuel, hf⟩ := h
  rcases open_slice_fields ht he hone hC hf with ⟨hcs, _⟩ | ⟨x, len', c, m, hcs, hl, hm, hmm, hcell⟩
  · simp [Value.cells] at hcs
    obtain ⟨rfl, rfl, rfl⟩ := hcs
    exact ⟨fun _ => (0, 0, 0, false), by omega, by omega, fun h => absurd h (by omega)⟩
  · simp [Value.cells] at hcs
    obtain ⟨rfl, rfl, rfl⟩ := hcs
    simp only [if_true] at hmm
    subst hmm
    have hbd : len ≤ 9223372036854775807 := by
      simp only [maxLen] at hm
      omega
    have hall : ∀ j, ∃ q : Int × Int × Int × Bool, j < len → ∀ m u, [Value.int .i64 q.1, .int .i64 q.2.1, .int .i64 q.2.2.1, .bool q.2.2.2][m]? = some u → w.cell? (x.add (j * 4 + m)) = some u := by
      intro j
      by_cases hj : j < len
      · obtain ⟨n, hfj⟩ := hcell j (by omega)
        obtain ⟨v0, y0, c0, t0⟩ := hfj 0 f0 rfl
        obtain ⟨v1, y1, c1, t1⟩ := hfj 1 f1 rfl
        obtain ⟨v2, y2, c2, t2⟩ := hfj 2 f2 rfl
        obtain ⟨v3, y3, c3, t3⟩ := hfj 3 f3 rfl
        obtain ⟨q0, e0, _, _⟩ := DataW.trod_int (h0 ▸ hi) t0
        obtain ⟨q1, e1, _, _⟩ := DataW.trod_int (h1 ▸ hi) t1
        obtain ⟨q2, e2, _, _⟩ := DataW.trod_int (h2 ▸ hi) t2
        obtain ⟨q3, e3, _⟩ := DataW.trod_bool (h3 ▸ hb) t3
        obtain rfl : v0 = _ := by simpa using e0
        obtain rfl : v1 = _ := by simpa using e1
        obtain rfl : v2 = _ := by simpa using e2
        obtain rfl : v3 = _ := by simpa using e3
        refine ⟨(q0, q1, q2, q3), fun _ m u hu => ?_⟩
        match m, hu with
        | 0, hu => simp at hu; subst hu; exact c0
        | 1, hu => simp at hu; subst hu; exact c1
        | 2, hu => simp at hu; subst hu; exact c2
        | 3, hu => simp at hu; subst hu; exact c3
        | m + 4, hu => simp at hu
      · exact ⟨(0, 0, 0, false), fun h => absurd h hj⟩
    refine ⟨fun j => Classical.choose (hall j), hl, hbd, fun hn => ⟨x, rfl, fun j hj m u hu => ?_⟩⟩
    exact Classical.choose_spec (hall j) hj m u hu
end
end Go.Proofs.Ytoafabcopihniaa.Open
