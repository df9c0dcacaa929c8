/-
  No cell of these rows narrows 'for every input' (looked for: loops, veiled, ifaces, maps, wideKeys, modest, calm, conditions, laid).
  DERIVED. THE GIVEN ROWS OF THIS SEAT. 12 by the template 'for every input the law returns true; each argument reads behind the call as it read before'; 0 by the template 'total and deterministic' (their statements: YtcdiajjadgbngaaTotals.lean).
  GIVEN WITH THE SEED: the statements are not yours to turn. If you find one false, say at which input.
  Laid BY PROGRAM, IN A SANDBOX (cutbox-rows.mjs): the forced cells as the released guide's own fill.sh prints them over the translation d096e178cb108587… (all of the seat's roots in one cut). By AI agents, Wed Nov 11 2026. No macro, syntax, notation, axiom, sorry.
-/
import Derived.Test.YtcdiajjadgbngaaChecked
import GoSem.Claim
import GoSem.ClaimJoined
import GoSem.ClaimMapViews
import Derived.JoinedTies
import Derived.KernelRfl
namespace Go.Proofs.Ytcdiajjadgbngaa
/- THE CELL 'sum', in the pinned program and in every row, IS THE sha256 OF THE DUMP (.gsa) THAT YtcdiajjadgbngaaProg.lean LOADS. Nothing in Lean hashes anything: it is a label: what it is worth is what the hold of that sum in a sandbox is worth. -/
noncomputable def Try.pinned : Pinned := { name := "ytcdiajjadgbngaa", sum := "d096e178cb108587bd4520ca04c02dc7a73b1ee1ab7c03680a2038f16bd5d3e4", checked := Try.checked }
namespace Rows
def none {H : Type} : Left H := { results := [], args := [] }

/-- 'laws.FnExactAreCrew': WHATEVER THE INPUT: true; the input reads as it did. -/
def fnExactAreCrewSpec : ChangeSpec := { name := "fnExactAreCrew", fn := fun _ => fun
  | [d] => { results := [.lit (.bool true)], args := [d] }
  | _ => none }
def fnExactAreCrewRow : OpenClaim := { program := "ytcdiajjadgbngaa", sum := "d096e178cb108587bd4520ca04c02dc7a73b1ee1ab7c03680a2038f16bd5d3e4", func := "loop.example/g03008/laws.FnExactAreCrew", spec := "fnExactAreCrew", apart := false }
def FnExactAreCrewSaid : Prop := fnExactAreCrewRow.holds Try.pinned (OpenSpec.ofChange fnExactAreCrewSpec)

/-- ITS FALSE NEIGHBOUR: 'it returns false'. Refute it at one input. -/
def fnExactAreCrewWrong : ChangeSpec := { name := "fnExactAreCrew", fn := fun _ => fun
  | [d] => { results := [.lit (.bool false)], args := [d] }
  | _ => none }
def FnExactAreCrewWrongFalsely : Prop := fnExactAreCrewRow.holds Try.pinned (OpenSpec.ofChange fnExactAreCrewWrong)

/-- 'laws.FnExactStrongest': WHATEVER THE INPUT: true; the input reads as it did. -/
def fnExactStrongestSpec : ChangeSpec := { name := "fnExactStrongest", fn := fun _ => fun
  | [d] => { results := [.lit (.bool true)], args := [d] }
  | _ => none }
def fnExactStrongestRow : OpenClaim := { program := "ytcdiajjadgbngaa", sum := "d096e178cb108587bd4520ca04c02dc7a73b1ee1ab7c03680a2038f16bd5d3e4", func := "loop.example/g03008/laws.FnExactStrongest", spec := "fnExactStrongest", apart := false }
def FnExactStrongestSaid : Prop := fnExactStrongestRow.holds Try.pinned (OpenSpec.ofChange fnExactStrongestSpec)

/-- ITS FALSE NEIGHBOUR: 'it returns false'. Refute it at one input. -/
def fnExactStrongestWrong : ChangeSpec := { name := "fnExactStrongest", fn := fun _ => fun
  | [d] => { results := [.lit (.bool false)], args := [d] }
  | _ => none }
def FnExactStrongestWrongFalsely : Prop := fnExactStrongestRow.holds Try.pinned (OpenSpec.ofChange fnExactStrongestWrong)

/-- 'laws.FnExactIsLand': WHATEVER THE INPUT: true; the input reads as it did. -/
def fnExactIsLandSpec : ChangeSpec := { name := "fnExactIsLand", fn := fun _ => fun
  | [d] => { results := [.lit (.bool true)], args := [d] }
  | _ => none }
def fnExactIsLandRow : OpenClaim := { program := "ytcdiajjadgbngaa", sum := "d096e178cb108587bd4520ca04c02dc7a73b1ee1ab7c03680a2038f16bd5d3e4", func := "loop.example/g03008/laws.FnExactIsLand", spec := "fnExactIsLand", apart := false }
def FnExactIsLandSaid : Prop := fnExactIsLandRow.holds Try.pinned (OpenSpec.ofChange fnExactIsLandSpec)

/-- ITS FALSE NEIGHBOUR: 'it returns false'. Refute it at one input. -/
def fnExactIsLandWrong : ChangeSpec := { name := "fnExactIsLand", fn := fun _ => fun
  | [d] => { results := [.lit (.bool false)], args := [d] }
  | _ => none }
def FnExactIsLandWrongFalsely : Prop := fnExactIsLandRow.holds Try.pinned (OpenSpec.ofChange fnExactIsLandWrong)

/-- 'laws.FnExactIsCell': WHATEVER THE INPUT: true; the input reads as it did. -/
def fnExactIsCellSpec : ChangeSpec := { name := "fnExactIsCell", fn := fun _ => fun
  | [d1, d2] => { results := [.lit (.bool true)], args := [d1, d2] }
  | _ => none }
def fnExactIsCellRow : OpenClaim := { program := "ytcdiajjadgbngaa", sum := "d096e178cb108587bd4520ca04c02dc7a73b1ee1ab7c03680a2038f16bd5d3e4", func := "loop.example/g03008/laws.FnExactIsCell", spec := "fnExactIsCell", apart := false }
def FnExactIsCellSaid : Prop := fnExactIsCellRow.holds Try.pinned (OpenSpec.ofChange fnExactIsCellSpec)

/-- ITS FALSE NEIGHBOUR: 'it returns false'. Refute it at one input. -/
def fnExactIsCellWrong : ChangeSpec := { name := "fnExactIsCell", fn := fun _ => fun
  | [d1, d2] => { results := [.lit (.bool false)], args := [d1, d2] }
  | _ => none }
def FnExactIsCellWrongFalsely : Prop := fnExactIsCellRow.holds Try.pinned (OpenSpec.ofChange fnExactIsCellWrong)

/-- 'laws.FnExactKeeps': WHATEVER THE INPUT: true; the input reads as it did. -/
def fnExactKeepsSpec : ChangeSpec := { name := "fnExactKeeps", fn := fun _ => fun
  | [d1, d2] => { results := [.lit (.bool true)], args := [d1, d2] }
  | _ => none }
def fnExactKeepsRow : OpenClaim := { program := "ytcdiajjadgbngaa", sum := "d096e178cb108587bd4520ca04c02dc7a73b1ee1ab7c03680a2038f16bd5d3e4", func := "loop.example/g03008/laws.FnExactKeeps", spec := "fnExactKeeps", apart := false }
def FnExactKeepsSaid : Prop := fnExactKeepsRow.holds Try.pinned (OpenSpec.ofChange fnExactKeepsSpec)

/-- ITS FALSE NEIGHBOUR: 'it returns false'. Refute it at one input. -/
def fnExactKeepsWrong : ChangeSpec := { name := "fnExactKeeps", fn := fun _ => fun
  | [d1, d2] => { results := [.lit (.bool false)], args := [d1, d2] }
  | _ => none }
def FnExactKeepsWrongFalsely : Prop := fnExactKeepsRow.holds Try.pinned (OpenSpec.ofChange fnExactKeepsWrong)

/-- 'laws.FnExactIsOpen': WHATEVER THE INPUT: true; the input reads as it did. -/
def fnExactIsOpenSpec : ChangeSpec := { name := "fnExactIsOpen", fn := fun _ => fun
  | [d1, d2] => { results := [.lit (.bool true)], args := [d1, d2] }
  | _ => none }
def fnExactIsOpenRow : OpenClaim := { program := "ytcdiajjadgbngaa", sum := "d096e178cb108587bd4520ca04c02dc7a73b1ee1ab7c03680a2038f16bd5d3e4", func := "loop.example/g03008/laws.FnExactIsOpen", spec := "fnExactIsOpen", apart := false }
def FnExactIsOpenSaid : Prop := fnExactIsOpenRow.holds Try.pinned (OpenSpec.ofChange fnExactIsOpenSpec)

/-- ITS FALSE NEIGHBOUR: 'it returns false'. Refute it at one input. -/
def fnExactIsOpenWrong : ChangeSpec := { name := "fnExactIsOpen", fn := fun _ => fun
  | [d1, d2] => { results := [.lit (.bool false)], args := [d1, d2] }
  | _ => none }
def FnExactIsOpenWrongFalsely : Prop := fnExactIsOpenRow.holds Try.pinned (OpenSpec.ofChange fnExactIsOpenWrong)

/-- 'laws.FnExactDecrypt': WHATEVER THE INPUT: true; the input reads as it did. -/
def fnExactDecryptSpec : ChangeSpec := { name := "fnExactDecrypt", fn := fun _ => fun
  | [d1, d2] => { results := [.lit (.bool true)], args := [d1, d2] }
  | _ => none }
def fnExactDecryptRow : OpenClaim := { program := "ytcdiajjadgbngaa", sum := "d096e178cb108587bd4520ca04c02dc7a73b1ee1ab7c03680a2038f16bd5d3e4", func := "loop.example/g03008/laws.FnExactDecrypt", spec := "fnExactDecrypt", apart := false }
def FnExactDecryptSaid : Prop := fnExactDecryptRow.holds Try.pinned (OpenSpec.ofChange fnExactDecryptSpec)

/-- ITS FALSE NEIGHBOUR: 'it returns false'. Refute it at one input. -/
def fnExactDecryptWrong : ChangeSpec := { name := "fnExactDecrypt", fn := fun _ => fun
  | [d1, d2] => { results := [.lit (.bool false)], args := [d1, d2] }
  | _ => none }
def FnExactDecryptWrongFalsely : Prop := fnExactDecryptRow.holds Try.pinned (OpenSpec.ofChange fnExactDecryptWrong)

/-- 'laws.FnExactEncrypt': WHATEVER THE INPUT: true; the input reads as it did. -/
def fnExactEncryptSpec : ChangeSpec := { name := "fnExactEncrypt", fn := fun _ => fun
  | [d1, d2] => { results := [.lit (.bool true)], args := [d1, d2] }
  | _ => none }
def fnExactEncryptRow : OpenClaim := { program := "ytcdiajjadgbngaa", sum := "d096e178cb108587bd4520ca04c02dc7a73b1ee1ab7c03680a2038f16bd5d3e4", func := "loop.example/g03008/laws.FnExactEncrypt", spec := "fnExactEncrypt", apart := false }
def FnExactEncryptSaid : Prop := fnExactEncryptRow.holds Try.pinned (OpenSpec.ofChange fnExactEncryptSpec)

/-- ITS FALSE NEIGHBOUR: 'it returns false'. Refute it at one input. -/
def fnExactEncryptWrong : ChangeSpec := { name := "fnExactEncrypt", fn := fun _ => fun
  | [d1, d2] => { results := [.lit (.bool false)], args := [d1, d2] }
  | _ => none }
def FnExactEncryptWrongFalsely : Prop := fnExactEncryptRow.holds Try.pinned (OpenSpec.ofChange fnExactEncryptWrong)

/-- 'laws.FnExactReadBytes': WHATEVER THE INPUT: true; the input reads as it did. -/
def fnExactReadBytesSpec : ChangeSpec := { name := "fnExactReadBytes", fn := fun _ => fun
  | [d1, d2, d3] => { results := [.lit (.bool true)], args := [d1, d2, d3] }
  | _ => none }
def fnExactReadBytesRow : OpenClaim := { program := "ytcdiajjadgbngaa", sum := "d096e178cb108587bd4520ca04c02dc7a73b1ee1ab7c03680a2038f16bd5d3e4", func := "loop.example/g03008/laws.FnExactReadBytes", spec := "fnExactReadBytes", apart := false }
def FnExactReadBytesSaid : Prop := fnExactReadBytesRow.holds Try.pinned (OpenSpec.ofChange fnExactReadBytesSpec)

/-- ITS FALSE NEIGHBOUR: 'it returns false'. Refute it at one input. -/
def fnExactReadBytesWrong : ChangeSpec := { name := "fnExactReadBytes", fn := fun _ => fun
  | [d1, d2, d3] => { results := [.lit (.bool false)], args := [d1, d2, d3] }
  | _ => none }
def FnExactReadBytesWrongFalsely : Prop := fnExactReadBytesRow.holds Try.pinned (OpenSpec.ofChange fnExactReadBytesWrong)

/-- 'laws.FnExactNeedOf': WHATEVER THE INPUT: true; the input reads as it did. -/
def fnExactNeedOfSpec : ChangeSpec := { name := "fnExactNeedOf", fn := fun _ => fun
  | [d] => { results := [.lit (.bool true)], args := [d] }
  | _ => none }
def fnExactNeedOfRow : OpenClaim := { program := "ytcdiajjadgbngaa", sum := "d096e178cb108587bd4520ca04c02dc7a73b1ee1ab7c03680a2038f16bd5d3e4", func := "loop.example/g03008/laws.FnExactNeedOf", spec := "fnExactNeedOf", apart := false }
def FnExactNeedOfSaid : Prop := fnExactNeedOfRow.holds Try.pinned (OpenSpec.ofChange fnExactNeedOfSpec)

/-- ITS FALSE NEIGHBOUR: 'it returns false'. Refute it at one input. -/
def fnExactNeedOfWrong : ChangeSpec := { name := "fnExactNeedOf", fn := fun _ => fun
  | [d] => { results := [.lit (.bool false)], args := [d] }
  | _ => none }
def FnExactNeedOfWrongFalsely : Prop := fnExactNeedOfRow.holds Try.pinned (OpenSpec.ofChange fnExactNeedOfWrong)

/-- 'laws.FnCipher': WHATEVER THE INPUT: true; the input reads as it did. -/
def fnCipherSpec : ChangeSpec := { name := "fnCipher", fn := fun _ => fun
  | [d] => { results := [.lit (.bool true)], args := [d] }
  | _ => none }
def fnCipherRow : OpenClaim := { program := "ytcdiajjadgbngaa", sum := "d096e178cb108587bd4520ca04c02dc7a73b1ee1ab7c03680a2038f16bd5d3e4", func := "loop.example/g03008/laws.FnCipher", spec := "fnCipher", apart := false }
def FnCipherSaid : Prop := fnCipherRow.holds Try.pinned (OpenSpec.ofChange fnCipherSpec)

/-- ITS FALSE NEIGHBOUR: 'it returns false'. Refute it at one input. -/
def fnCipherWrong : ChangeSpec := { name := "fnCipher", fn := fun _ => fun
  | [d] => { results := [.lit (.bool false)], args := [d] }
  | _ => none }
def FnCipherWrongFalsely : Prop := fnCipherRow.holds Try.pinned (OpenSpec.ofChange fnCipherWrong)

/-- 'laws.FnExactEncodeInts': WHATEVER THE INPUT: true; the input reads as it did. -/
def fnExactEncodeIntsSpec : ChangeSpec := { name := "fnExactEncodeInts", fn := fun _ => fun
  | [d] => { results := [.lit (.bool true)], args := [d] }
  | _ => none }
def fnExactEncodeIntsRow : OpenClaim := { program := "ytcdiajjadgbngaa", sum := "d096e178cb108587bd4520ca04c02dc7a73b1ee1ab7c03680a2038f16bd5d3e4", func := "loop.example/g03008/laws.FnExactEncodeInts", spec := "fnExactEncodeInts", apart := false }
def FnExactEncodeIntsSaid : Prop := fnExactEncodeIntsRow.holds Try.pinned (OpenSpec.ofChange fnExactEncodeIntsSpec)

/-- ITS FALSE NEIGHBOUR: 'it returns false'. Refute it at one input. -/
def fnExactEncodeIntsWrong : ChangeSpec := { name := "fnExactEncodeInts", fn := fun _ => fun
  | [d] => { results := [.lit (.bool false)], args := [d] }
  | _ => none }
def FnExactEncodeIntsWrongFalsely : Prop := fnExactEncodeIntsRow.holds Try.pinned (OpenSpec.ofChange fnExactEncodeIntsWrong)

/- THE SECOND FORM. 'bulk': how many values and letters a reading holds, each counted each time it is reached (what is shared counts as often as it is met; a slice's spare places count too). A statement '..UptoSaid' is the law's where the arguments, and the package variables that the reading takes, are together of bulk at most 1048576: NARROWER than '..Said'. Prove '..Said' where nothing that the law and all that it calls make is longer than what came in: it says more and counts as full. Else prove '..UptoSaid'. A law counts once. -/
mutual
def uptoBulk {H : Type} : DataW H → Nat
  | .lit (.string bytes) => bytes.length + 1
  | .lit _ => 1
  | .nil => 1
  | .ptr d => uptoBulk d + 1
  | .slice elems spare => uptoBulkAll elems + uptoBulkAll spare + 1
  | .agg parts => uptoBulkAll parts + 1
  | .iface _ d => uptoBulk d + 1
  | .map entries => uptoBulkEntries entries + 1
  | .held _ => 1
def uptoBulkAll {H : Type} : List (DataW H) → Nat
  | [] => 0
  | d :: r => uptoBulk d + uptoBulkAll r
def uptoBulkEntries {H : Type} : List (Lit × DataW H) → Nat
  | [] => 0
  | x :: r => uptoBulkEntry x + uptoBulkEntries r
def uptoBulkEntry {H : Type} : Lit × DataW H → Nat
  | (.string bytes, d) => bytes.length + uptoBulk d + 1
  | (_, d) => uptoBulk d + 1
 end
def uptoSmall : (H : Type) → List (DataW H) → Bool := fun _ ds => decide (uptoBulkAll ds ≤ 1048576)
def OpenSpec.upto (s : _root_.Go.ChangeSpec) : _root_.Go.OpenSpec := { _root_.Go.OpenSpec.ofChange s with cond := some uptoSmall }

/-- 'laws.FnExactAreCrew', WHERE WHAT IT READS IS OF BULK AT MOST 1048576: true; the input reads as it did. -/
def fnExactAreCrewUptoRow : OpenClaim := { program := "ytcdiajjadgbngaa", sum := "d096e178cb108587bd4520ca04c02dc7a73b1ee1ab7c03680a2038f16bd5d3e4", func := "loop.example/g03008/laws.FnExactAreCrew", spec := "fnExactAreCrew", apart := false, narrowed := true }
def FnExactAreCrewUptoSaid : Prop := fnExactAreCrewUptoRow.holds Try.pinned (OpenSpec.upto fnExactAreCrewSpec)

/-- 'laws.FnExactStrongest', WHERE WHAT IT READS IS OF BULK AT MOST 1048576: true; the input reads as it did. -/
def fnExactStrongestUptoRow : OpenClaim := { program := "ytcdiajjadgbngaa", sum := "d096e178cb108587bd4520ca04c02dc7a73b1ee1ab7c03680a2038f16bd5d3e4", func := "loop.example/g03008/laws.FnExactStrongest", spec := "fnExactStrongest", apart := false, narrowed := true }
def FnExactStrongestUptoSaid : Prop := fnExactStrongestUptoRow.holds Try.pinned (OpenSpec.upto fnExactStrongestSpec)

/-- 'laws.FnExactIsLand', WHERE WHAT IT READS IS OF BULK AT MOST 1048576: true; the input reads as it did. -/
def fnExactIsLandUptoRow : OpenClaim := { program := "ytcdiajjadgbngaa", sum := "d096e178cb108587bd4520ca04c02dc7a73b1ee1ab7c03680a2038f16bd5d3e4", func := "loop.example/g03008/laws.FnExactIsLand", spec := "fnExactIsLand", apart := false, narrowed := true }
def FnExactIsLandUptoSaid : Prop := fnExactIsLandUptoRow.holds Try.pinned (OpenSpec.upto fnExactIsLandSpec)

/-- 'laws.FnExactIsCell', WHERE WHAT IT READS IS OF BULK AT MOST 1048576: true; the input reads as it did. -/
def fnExactIsCellUptoRow : OpenClaim := { program := "ytcdiajjadgbngaa", sum := "d096e178cb108587bd4520ca04c02dc7a73b1ee1ab7c03680a2038f16bd5d3e4", func := "loop.example/g03008/laws.FnExactIsCell", spec := "fnExactIsCell", apart := false, narrowed := true }
def FnExactIsCellUptoSaid : Prop := fnExactIsCellUptoRow.holds Try.pinned (OpenSpec.upto fnExactIsCellSpec)

/-- 'laws.FnExactKeeps', WHERE WHAT IT READS IS OF BULK AT MOST 1048576: true; the input reads as it did. -/
def fnExactKeepsUptoRow : OpenClaim := { program := "ytcdiajjadgbngaa", sum := "d096e178cb108587bd4520ca04c02dc7a73b1ee1ab7c03680a2038f16bd5d3e4", func := "loop.example/g03008/laws.FnExactKeeps", spec := "fnExactKeeps", apart := false, narrowed := true }
def FnExactKeepsUptoSaid : Prop := fnExactKeepsUptoRow.holds Try.pinned (OpenSpec.upto fnExactKeepsSpec)

/-- 'laws.FnExactIsOpen', WHERE WHAT IT READS IS OF BULK AT MOST 1048576: true; the input reads as it did. -/
def fnExactIsOpenUptoRow : OpenClaim := { program := "ytcdiajjadgbngaa", sum := "d096e178cb108587bd4520ca04c02dc7a73b1ee1ab7c03680a2038f16bd5d3e4", func := "loop.example/g03008/laws.FnExactIsOpen", spec := "fnExactIsOpen", apart := false, narrowed := true }
def FnExactIsOpenUptoSaid : Prop := fnExactIsOpenUptoRow.holds Try.pinned (OpenSpec.upto fnExactIsOpenSpec)

/-- 'laws.FnExactDecrypt', WHERE WHAT IT READS IS OF BULK AT MOST 1048576: true; the input reads as it did. -/
def fnExactDecryptUptoRow : OpenClaim := { program := "ytcdiajjadgbngaa", sum := "d096e178cb108587bd4520ca04c02dc7a73b1ee1ab7c03680a2038f16bd5d3e4", func := "loop.example/g03008/laws.FnExactDecrypt", spec := "fnExactDecrypt", apart := false, narrowed := true }
def FnExactDecryptUptoSaid : Prop := fnExactDecryptUptoRow.holds Try.pinned (OpenSpec.upto fnExactDecryptSpec)

/-- 'laws.FnExactEncrypt', WHERE WHAT IT READS IS OF BULK AT MOST 1048576: true; the input reads as it did. -/
def fnExactEncryptUptoRow : OpenClaim := { program := "ytcdiajjadgbngaa", sum := "d096e178cb108587bd4520ca04c02dc7a73b1ee1ab7c03680a2038f16bd5d3e4", func := "loop.example/g03008/laws.FnExactEncrypt", spec := "fnExactEncrypt", apart := false, narrowed := true }
def FnExactEncryptUptoSaid : Prop := fnExactEncryptUptoRow.holds Try.pinned (OpenSpec.upto fnExactEncryptSpec)

/-- 'laws.FnExactReadBytes', WHERE WHAT IT READS IS OF BULK AT MOST 1048576: true; the input reads as it did. -/
def fnExactReadBytesUptoRow : OpenClaim := { program := "ytcdiajjadgbngaa", sum := "d096e178cb108587bd4520ca04c02dc7a73b1ee1ab7c03680a2038f16bd5d3e4", func := "loop.example/g03008/laws.FnExactReadBytes", spec := "fnExactReadBytes", apart := false, narrowed := true }
def FnExactReadBytesUptoSaid : Prop := fnExactReadBytesUptoRow.holds Try.pinned (OpenSpec.upto fnExactReadBytesSpec)

/-- 'laws.FnExactNeedOf', WHERE WHAT IT READS IS OF BULK AT MOST 1048576: true; the input reads as it did. -/
def fnExactNeedOfUptoRow : OpenClaim := { program := "ytcdiajjadgbngaa", sum := "d096e178cb108587bd4520ca04c02dc7a73b1ee1ab7c03680a2038f16bd5d3e4", func := "loop.example/g03008/laws.FnExactNeedOf", spec := "fnExactNeedOf", apart := false, narrowed := true }
def FnExactNeedOfUptoSaid : Prop := fnExactNeedOfUptoRow.holds Try.pinned (OpenSpec.upto fnExactNeedOfSpec)

/-- 'laws.FnCipher', WHERE WHAT IT READS IS OF BULK AT MOST 1048576: true; the input reads as it did. -/
def fnCipherUptoRow : OpenClaim := { program := "ytcdiajjadgbngaa", sum := "d096e178cb108587bd4520ca04c02dc7a73b1ee1ab7c03680a2038f16bd5d3e4", func := "loop.example/g03008/laws.FnCipher", spec := "fnCipher", apart := false, narrowed := true }
def FnCipherUptoSaid : Prop := fnCipherUptoRow.holds Try.pinned (OpenSpec.upto fnCipherSpec)

/-- 'laws.FnExactEncodeInts', WHERE WHAT IT READS IS OF BULK AT MOST 1048576: true; the input reads as it did. -/
def fnExactEncodeIntsUptoRow : OpenClaim := { program := "ytcdiajjadgbngaa", sum := "d096e178cb108587bd4520ca04c02dc7a73b1ee1ab7c03680a2038f16bd5d3e4", func := "loop.example/g03008/laws.FnExactEncodeInts", spec := "fnExactEncodeInts", apart := false, narrowed := true }
def FnExactEncodeIntsUptoSaid : Prop := fnExactEncodeIntsUptoRow.holds Try.pinned (OpenSpec.upto fnExactEncodeIntsSpec)

end Rows
end Go.Proofs.Ytcdiajjadgbngaa
