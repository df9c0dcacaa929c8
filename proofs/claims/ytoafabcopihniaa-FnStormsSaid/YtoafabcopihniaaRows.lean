/-
  No cell of these rows narrows 'for every input' (looked for: loops, veiled, ifaces, maps, wideKeys, modest, calm, conditions, laid).
  DERIVED. THE GIVEN ROWS OF THIS SEAT. 12 by the template 'for every input the law returns true; each argument reads behind the call as it read before'; 0 by the template 'total and deterministic' (their statements: YtoafabcopihniaaTotals.lean).
  GIVEN WITH THE SEED: the statements are not yours to turn. If you find one false, say at which input.
  Laid BY PROGRAM, IN A SANDBOX (cutbox-rows.mjs): the forced cells as the released guide's own fill.sh prints them over the translation 33773dc4fea7b0d4… (all of the seat's roots in one cut). By AI agents, Wed Nov 11 2026. No macro, syntax, notation, axiom, sorry.
-/
import Derived.Test.YtoafabcopihniaaChecked
import GoSem.Claim
import GoSem.ClaimJoined
import GoSem.ClaimMapViews
import Derived.JoinedTies
import Derived.KernelRfl
namespace Go.Proofs.Ytoafabcopihniaa
/- THE CELL 'sum', in the pinned program and in every row, IS THE sha256 OF THE DUMP (.gsa) THAT YtoafabcopihniaaProg.lean LOADS. Nothing in Lean hashes anything: it is a label: what it is worth is what the hold of that sum in a sandbox is worth. -/
noncomputable def Try.pinned : Pinned := { name := "ytoafabcopihniaa", sum := "33773dc4fea7b0d4e0e51060c17b3e1da7c8c5445f2b938721a4577b098836b3", checked := Try.checked }
namespace Rows
def none {H : Type} : Left H := { results := [], args := [] }

/-- 'laws.FnExactWorstDays': WHATEVER THE INPUT: true; the input reads as it did. -/
def fnExactWorstDaysSpec : ChangeSpec := { name := "fnExactWorstDays", fn := fun _ => fun
  | [d1, d2, d3] => { results := [.lit (.bool true)], args := [d1, d2, d3] }
  | _ => none }
def fnExactWorstDaysRow : OpenClaim := { program := "ytoafabcopihniaa", sum := "33773dc4fea7b0d4e0e51060c17b3e1da7c8c5445f2b938721a4577b098836b3", func := "loop.example/g03008/laws.FnExactWorstDays", spec := "fnExactWorstDays", apart := false }
def FnExactWorstDaysSaid : Prop := fnExactWorstDaysRow.holds Try.pinned (OpenSpec.ofChange fnExactWorstDaysSpec)

/-- ITS FALSE NEIGHBOUR: 'it returns false'. Refute it at one input. -/
def fnExactWorstDaysWrong : ChangeSpec := { name := "fnExactWorstDays", fn := fun _ => fun
  | [d1, d2, d3] => { results := [.lit (.bool false)], args := [d1, d2, d3] }
  | _ => none }
def FnExactWorstDaysWrongFalsely : Prop := fnExactWorstDaysRow.holds Try.pinned (OpenSpec.ofChange fnExactWorstDaysWrong)

/-- 'laws.FnExactCountCells': WHATEVER THE INPUT: true; the input reads as it did. -/
def fnExactCountCellsSpec : ChangeSpec := { name := "fnExactCountCells", fn := fun _ => fun
  | [d1, d2] => { results := [.lit (.bool true)], args := [d1, d2] }
  | _ => none }
def fnExactCountCellsRow : OpenClaim := { program := "ytoafabcopihniaa", sum := "33773dc4fea7b0d4e0e51060c17b3e1da7c8c5445f2b938721a4577b098836b3", func := "loop.example/g03008/laws.FnExactCountCells", spec := "fnExactCountCells", apart := false }
def FnExactCountCellsSaid : Prop := fnExactCountCellsRow.holds Try.pinned (OpenSpec.ofChange fnExactCountCellsSpec)

/-- ITS FALSE NEIGHBOUR: 'it returns false'. Refute it at one input. -/
def fnExactCountCellsWrong : ChangeSpec := { name := "fnExactCountCells", fn := fun _ => fun
  | [d1, d2] => { results := [.lit (.bool false)], args := [d1, d2] }
  | _ => none }
def FnExactCountCellsWrongFalsely : Prop := fnExactCountCellsRow.holds Try.pinned (OpenSpec.ofChange fnExactCountCellsWrong)

/-- 'laws.FnExactApart': WHATEVER THE INPUT: true; the input reads as it did. -/
def fnExactApartSpec : ChangeSpec := { name := "fnExactApart", fn := fun _ => fun
  | [d1, d2, d3] => { results := [.lit (.bool true)], args := [d1, d2, d3] }
  | _ => none }
def fnExactApartRow : OpenClaim := { program := "ytoafabcopihniaa", sum := "33773dc4fea7b0d4e0e51060c17b3e1da7c8c5445f2b938721a4577b098836b3", func := "loop.example/g03008/laws.FnExactApart", spec := "fnExactApart", apart := false }
def FnExactApartSaid : Prop := fnExactApartRow.holds Try.pinned (OpenSpec.ofChange fnExactApartSpec)

/-- ITS FALSE NEIGHBOUR: 'it returns false'. Refute it at one input. -/
def fnExactApartWrong : ChangeSpec := { name := "fnExactApart", fn := fun _ => fun
  | [d1, d2, d3] => { results := [.lit (.bool false)], args := [d1, d2, d3] }
  | _ => none }
def FnExactApartWrongFalsely : Prop := fnExactApartRow.holds Try.pinned (OpenSpec.ofChange fnExactApartWrong)

/-- 'laws.FnKeyedHash': WHATEVER THE INPUT: true; the input reads as it did. -/
def fnKeyedHashSpec : ChangeSpec := { name := "fnKeyedHash", fn := fun _ => fun
  | [d] => { results := [.lit (.bool true)], args := [d] }
  | _ => none }
def fnKeyedHashRow : OpenClaim := { program := "ytoafabcopihniaa", sum := "33773dc4fea7b0d4e0e51060c17b3e1da7c8c5445f2b938721a4577b098836b3", func := "loop.example/g03008/laws.FnKeyedHash", spec := "fnKeyedHash", apart := false }
def FnKeyedHashSaid : Prop := fnKeyedHashRow.holds Try.pinned (OpenSpec.ofChange fnKeyedHashSpec)

/-- ITS FALSE NEIGHBOUR: 'it returns false'. Refute it at one input. -/
def fnKeyedHashWrong : ChangeSpec := { name := "fnKeyedHash", fn := fun _ => fun
  | [d] => { results := [.lit (.bool false)], args := [d] }
  | _ => none }
def FnKeyedHashWrongFalsely : Prop := fnKeyedHashRow.holds Try.pinned (OpenSpec.ofChange fnKeyedHashWrong)

/-- 'laws.FnExactDecodeInts': WHATEVER THE INPUT: true; the input reads as it did. -/
def fnExactDecodeIntsSpec : ChangeSpec := { name := "fnExactDecodeInts", fn := fun _ => fun
  | [d1, d2, d3] => { results := [.lit (.bool true)], args := [d1, d2, d3] }
  | _ => none }
def fnExactDecodeIntsRow : OpenClaim := { program := "ytoafabcopihniaa", sum := "33773dc4fea7b0d4e0e51060c17b3e1da7c8c5445f2b938721a4577b098836b3", func := "loop.example/g03008/laws.FnExactDecodeInts", spec := "fnExactDecodeInts", apart := false }
def FnExactDecodeIntsSaid : Prop := fnExactDecodeIntsRow.holds Try.pinned (OpenSpec.ofChange fnExactDecodeIntsSpec)

/-- ITS FALSE NEIGHBOUR: 'it returns false'. Refute it at one input. -/
def fnExactDecodeIntsWrong : ChangeSpec := { name := "fnExactDecodeInts", fn := fun _ => fun
  | [d1, d2, d3] => { results := [.lit (.bool false)], args := [d1, d2, d3] }
  | _ => none }
def FnExactDecodeIntsWrongFalsely : Prop := fnExactDecodeIntsRow.holds Try.pinned (OpenSpec.ofChange fnExactDecodeIntsWrong)

/-- 'laws.FnByteStrings': WHATEVER THE INPUT: true; the input reads as it did. -/
def fnByteStringsSpec : ChangeSpec := { name := "fnByteStrings", fn := fun _ => fun
  | [d] => { results := [.lit (.bool true)], args := [d] }
  | _ => none }
def fnByteStringsRow : OpenClaim := { program := "ytoafabcopihniaa", sum := "33773dc4fea7b0d4e0e51060c17b3e1da7c8c5445f2b938721a4577b098836b3", func := "loop.example/g03008/laws.FnByteStrings", spec := "fnByteStrings", apart := false }
def FnByteStringsSaid : Prop := fnByteStringsRow.holds Try.pinned (OpenSpec.ofChange fnByteStringsSpec)

/-- ITS FALSE NEIGHBOUR: 'it returns false'. Refute it at one input. -/
def fnByteStringsWrong : ChangeSpec := { name := "fnByteStrings", fn := fun _ => fun
  | [d] => { results := [.lit (.bool false)], args := [d] }
  | _ => none }
def FnByteStringsWrongFalsely : Prop := fnByteStringsRow.holds Try.pinned (OpenSpec.ofChange fnByteStringsWrong)

/-- 'laws.FnStorms': WHATEVER THE INPUT: true; the input reads as it did. -/
def fnStormsSpec : ChangeSpec := { name := "fnStorms", fn := fun _ => fun
  | [d] => { results := [.lit (.bool true)], args := [d] }
  | _ => none }
def fnStormsRow : OpenClaim := { program := "ytoafabcopihniaa", sum := "33773dc4fea7b0d4e0e51060c17b3e1da7c8c5445f2b938721a4577b098836b3", func := "loop.example/g03008/laws.FnStorms", spec := "fnStorms", apart := false }
def FnStormsSaid : Prop := fnStormsRow.holds Try.pinned (OpenSpec.ofChange fnStormsSpec)

/-- ITS FALSE NEIGHBOUR: 'it returns false'. Refute it at one input. -/
def fnStormsWrong : ChangeSpec := { name := "fnStorms", fn := fun _ => fun
  | [d] => { results := [.lit (.bool false)], args := [d] }
  | _ => none }
def FnStormsWrongFalsely : Prop := fnStormsRow.holds Try.pinned (OpenSpec.ofChange fnStormsWrong)

/-- 'laws.FnVarints': WHATEVER THE INPUT: true; the input reads as it did. -/
def fnVarintsSpec : ChangeSpec := { name := "fnVarints", fn := fun _ => fun
  | [d] => { results := [.lit (.bool true)], args := [d] }
  | _ => none }
def fnVarintsRow : OpenClaim := { program := "ytoafabcopihniaa", sum := "33773dc4fea7b0d4e0e51060c17b3e1da7c8c5445f2b938721a4577b098836b3", func := "loop.example/g03008/laws.FnVarints", spec := "fnVarints", apart := false }
def FnVarintsSaid : Prop := fnVarintsRow.holds Try.pinned (OpenSpec.ofChange fnVarintsSpec)

/-- ITS FALSE NEIGHBOUR: 'it returns false'. Refute it at one input. -/
def fnVarintsWrong : ChangeSpec := { name := "fnVarints", fn := fun _ => fun
  | [d] => { results := [.lit (.bool false)], args := [d] }
  | _ => none }
def FnVarintsWrongFalsely : Prop := fnVarintsRow.holds Try.pinned (OpenSpec.ofChange fnVarintsWrong)

/-- 'laws.FnExactIsWay': WHATEVER THE INPUT: true; the input reads as it did. -/
def fnExactIsWaySpec : ChangeSpec := { name := "fnExactIsWay", fn := fun _ => fun
  | [d1, d2] => { results := [.lit (.bool true)], args := [d1, d2] }
  | _ => none }
def fnExactIsWayRow : OpenClaim := { program := "ytoafabcopihniaa", sum := "33773dc4fea7b0d4e0e51060c17b3e1da7c8c5445f2b938721a4577b098836b3", func := "loop.example/g03008/laws.FnExactIsWay", spec := "fnExactIsWay", apart := false }
def FnExactIsWaySaid : Prop := fnExactIsWayRow.holds Try.pinned (OpenSpec.ofChange fnExactIsWaySpec)

/-- ITS FALSE NEIGHBOUR: 'it returns false'. Refute it at one input. -/
def fnExactIsWayWrong : ChangeSpec := { name := "fnExactIsWay", fn := fun _ => fun
  | [d1, d2] => { results := [.lit (.bool false)], args := [d1, d2] }
  | _ => none }
def FnExactIsWayWrongFalsely : Prop := fnExactIsWayRow.holds Try.pinned (OpenSpec.ofChange fnExactIsWayWrong)

/-- 'laws.FnExactNear': WHATEVER THE INPUT: true; the input reads as it did. -/
def fnExactNearSpec : ChangeSpec := { name := "fnExactNear", fn := fun _ => fun
  | [d1, d2] => { results := [.lit (.bool true)], args := [d1, d2] }
  | _ => none }
def fnExactNearRow : OpenClaim := { program := "ytoafabcopihniaa", sum := "33773dc4fea7b0d4e0e51060c17b3e1da7c8c5445f2b938721a4577b098836b3", func := "loop.example/g03008/laws.FnExactNear", spec := "fnExactNear", apart := false }
def FnExactNearSaid : Prop := fnExactNearRow.holds Try.pinned (OpenSpec.ofChange fnExactNearSpec)

/-- ITS FALSE NEIGHBOUR: 'it returns false'. Refute it at one input. -/
def fnExactNearWrong : ChangeSpec := { name := "fnExactNear", fn := fun _ => fun
  | [d1, d2] => { results := [.lit (.bool false)], args := [d1, d2] }
  | _ => none }
def FnExactNearWrongFalsely : Prop := fnExactNearRow.holds Try.pinned (OpenSpec.ofChange fnExactNearWrong)

/-- 'laws.FnLand': WHATEVER THE INPUT: true; the input reads as it did. -/
def fnLandSpec : ChangeSpec := { name := "fnLand", fn := fun _ => fun
  | [d] => { results := [.lit (.bool true)], args := [d] }
  | _ => none }
def fnLandRow : OpenClaim := { program := "ytoafabcopihniaa", sum := "33773dc4fea7b0d4e0e51060c17b3e1da7c8c5445f2b938721a4577b098836b3", func := "loop.example/g03008/laws.FnLand", spec := "fnLand", apart := false }
def FnLandSaid : Prop := fnLandRow.holds Try.pinned (OpenSpec.ofChange fnLandSpec)

/-- ITS FALSE NEIGHBOUR: 'it returns false'. Refute it at one input. -/
def fnLandWrong : ChangeSpec := { name := "fnLand", fn := fun _ => fun
  | [d] => { results := [.lit (.bool false)], args := [d] }
  | _ => none }
def FnLandWrongFalsely : Prop := fnLandRow.holds Try.pinned (OpenSpec.ofChange fnLandWrong)

/-- 'laws.FnExactDays': WHATEVER THE INPUT: true; the input reads as it did. -/
def fnExactDaysSpec : ChangeSpec := { name := "fnExactDays", fn := fun _ => fun
  | [d1, d2, d3] => { results := [.lit (.bool true)], args := [d1, d2, d3] }
  | _ => none }
def fnExactDaysRow : OpenClaim := { program := "ytoafabcopihniaa", sum := "33773dc4fea7b0d4e0e51060c17b3e1da7c8c5445f2b938721a4577b098836b3", func := "loop.example/g03008/laws.FnExactDays", spec := "fnExactDays", apart := false }
def FnExactDaysSaid : Prop := fnExactDaysRow.holds Try.pinned (OpenSpec.ofChange fnExactDaysSpec)

/-- ITS FALSE NEIGHBOUR: 'it returns false'. Refute it at one input. -/
def fnExactDaysWrong : ChangeSpec := { name := "fnExactDays", fn := fun _ => fun
  | [d1, d2, d3] => { results := [.lit (.bool false)], args := [d1, d2, d3] }
  | _ => none }
def FnExactDaysWrongFalsely : Prop := fnExactDaysRow.holds Try.pinned (OpenSpec.ofChange fnExactDaysWrong)

/- THE SECOND FORM. 'bulk': how many values and letters a reading holds, each counted each time it is reached (what is shared counts as often as it is met; a slice's spare places count too). A statement '..UptoSaid' is the law's where the arguments, and the package variables that the reading takes, are together of bulk at most 1048576: NARROWER than '..Said'. Prove '..Said' where nothing that the law and all that it calls make is longer than what came in: it says more and counts as full. Else prove '..UptoSaid'. A law counts once. -/
mutual
def uptoBulk {H : Type} : DataW H → Nat
  | .lit (.string bytes) => bytes.length + 1
  | .lit _ => 1
  | .nil => 1
  | .ptr d => uptoBulk d + 1
  | .slice elems spare => uptoBulkAll elems + uptoBulkAll spare + 1
  | .agg parts => uptoBulkAll parts + 1
  | .iface _ d => uptoBulk d + 1
  | .map entries => uptoBulkEntries entries + 1
  | .held _ => 1
def uptoBulkAll {H : Type} : List (DataW H) → Nat
  | [] => 0
  | d :: r => uptoBulk d + uptoBulkAll r
def uptoBulkEntries {H : Type} : List (Lit × DataW H) → Nat
  | [] => 0
  | x :: r => uptoBulkEntry x + uptoBulkEntries r
def uptoBulkEntry {H : Type} : Lit × DataW H → Nat
  | (.string bytes, d) => bytes.length + uptoBulk d + 1
  | (_, d) => uptoBulk d + 1
 end
def uptoSmall : (H : Type) → List (DataW H) → Bool := fun _ ds => decide (uptoBulkAll ds ≤ 1048576)
def OpenSpec.upto (s : _root_.Go.ChangeSpec) : _root_.Go.OpenSpec := { _root_.Go.OpenSpec.ofChange s with cond := some uptoSmall }

/-- 'laws.FnExactWorstDays', WHERE WHAT IT READS IS OF BULK AT MOST 1048576: true; the input reads as it did. -/
def fnExactWorstDaysUptoRow : OpenClaim := { program := "ytoafabcopihniaa", sum := "33773dc4fea7b0d4e0e51060c17b3e1da7c8c5445f2b938721a4577b098836b3", func := "loop.example/g03008/laws.FnExactWorstDays", spec := "fnExactWorstDays", apart := false, narrowed := true }
def FnExactWorstDaysUptoSaid : Prop := fnExactWorstDaysUptoRow.holds Try.pinned (OpenSpec.upto fnExactWorstDaysSpec)

/-- 'laws.FnExactCountCells', WHERE WHAT IT READS IS OF BULK AT MOST 1048576: true; the input reads as it did. -/
def fnExactCountCellsUptoRow : OpenClaim := { program := "ytoafabcopihniaa", sum := "33773dc4fea7b0d4e0e51060c17b3e1da7c8c5445f2b938721a4577b098836b3", func := "loop.example/g03008/laws.FnExactCountCells", spec := "fnExactCountCells", apart := false, narrowed := true }
def FnExactCountCellsUptoSaid : Prop := fnExactCountCellsUptoRow.holds Try.pinned (OpenSpec.upto fnExactCountCellsSpec)

/-- 'laws.FnExactApart', WHERE WHAT IT READS IS OF BULK AT MOST 1048576: true; the input reads as it did. -/
def fnExactApartUptoRow : OpenClaim := { program := "ytoafabcopihniaa", sum := "33773dc4fea7b0d4e0e51060c17b3e1da7c8c5445f2b938721a4577b098836b3", func := "loop.example/g03008/laws.FnExactApart", spec := "fnExactApart", apart := false, narrowed := true }
def FnExactApartUptoSaid : Prop := fnExactApartUptoRow.holds Try.pinned (OpenSpec.upto fnExactApartSpec)

/-- 'laws.FnKeyedHash', WHERE WHAT IT READS IS OF BULK AT MOST 1048576: true; the input reads as it did. -/
def fnKeyedHashUptoRow : OpenClaim := { program := "ytoafabcopihniaa", sum := "33773dc4fea7b0d4e0e51060c17b3e1da7c8c5445f2b938721a4577b098836b3", func := "loop.example/g03008/laws.FnKeyedHash", spec := "fnKeyedHash", apart := false, narrowed := true }
def FnKeyedHashUptoSaid : Prop := fnKeyedHashUptoRow.holds Try.pinned (OpenSpec.upto fnKeyedHashSpec)

/-- 'laws.FnExactDecodeInts', WHERE WHAT IT READS IS OF BULK AT MOST 1048576: true; the input reads as it did. -/
def fnExactDecodeIntsUptoRow : OpenClaim := { program := "ytoafabcopihniaa", sum := "33773dc4fea7b0d4e0e51060c17b3e1da7c8c5445f2b938721a4577b098836b3", func := "loop.example/g03008/laws.FnExactDecodeInts", spec := "fnExactDecodeInts", apart := false, narrowed := true }
def FnExactDecodeIntsUptoSaid : Prop := fnExactDecodeIntsUptoRow.holds Try.pinned (OpenSpec.upto fnExactDecodeIntsSpec)

/-- 'laws.FnByteStrings', WHERE WHAT IT READS IS OF BULK AT MOST 1048576: true; the input reads as it did. -/
def fnByteStringsUptoRow : OpenClaim := { program := "ytoafabcopihniaa", sum := "33773dc4fea7b0d4e0e51060c17b3e1da7c8c5445f2b938721a4577b098836b3", func := "loop.example/g03008/laws.FnByteStrings", spec := "fnByteStrings", apart := false, narrowed := true }
def FnByteStringsUptoSaid : Prop := fnByteStringsUptoRow.holds Try.pinned (OpenSpec.upto fnByteStringsSpec)

/-- 'laws.FnStorms', WHERE WHAT IT READS IS OF BULK AT MOST 1048576: true; the input reads as it did. -/
def fnStormsUptoRow : OpenClaim := { program := "ytoafabcopihniaa", sum := "33773dc4fea7b0d4e0e51060c17b3e1da7c8c5445f2b938721a4577b098836b3", func := "loop.example/g03008/laws.FnStorms", spec := "fnStorms", apart := false, narrowed := true }
def FnStormsUptoSaid : Prop := fnStormsUptoRow.holds Try.pinned (OpenSpec.upto fnStormsSpec)

/-- 'laws.FnVarints', WHERE WHAT IT READS IS OF BULK AT MOST 1048576: true; the input reads as it did. -/
def fnVarintsUptoRow : OpenClaim := { program := "ytoafabcopihniaa", sum := "33773dc4fea7b0d4e0e51060c17b3e1da7c8c5445f2b938721a4577b098836b3", func := "loop.example/g03008/laws.FnVarints", spec := "fnVarints", apart := false, narrowed := true }
def FnVarintsUptoSaid : Prop := fnVarintsUptoRow.holds Try.pinned (OpenSpec.upto fnVarintsSpec)

/-- 'laws.FnExactIsWay', WHERE WHAT IT READS IS OF BULK AT MOST 1048576: true; the input reads as it did. -/
def fnExactIsWayUptoRow : OpenClaim := { program := "ytoafabcopihniaa", sum := "33773dc4fea7b0d4e0e51060c17b3e1da7c8c5445f2b938721a4577b098836b3", func := "loop.example/g03008/laws.FnExactIsWay", spec := "fnExactIsWay", apart := false, narrowed := true }
def FnExactIsWayUptoSaid : Prop := fnExactIsWayUptoRow.holds Try.pinned (OpenSpec.upto fnExactIsWaySpec)

/-- 'laws.FnExactNear', WHERE WHAT IT READS IS OF BULK AT MOST 1048576: true; the input reads as it did. -/
def fnExactNearUptoRow : OpenClaim := { program := "ytoafabcopihniaa", sum := "33773dc4fea7b0d4e0e51060c17b3e1da7c8c5445f2b938721a4577b098836b3", func := "loop.example/g03008/laws.FnExactNear", spec := "fnExactNear", apart := false, narrowed := true }
def FnExactNearUptoSaid : Prop := fnExactNearUptoRow.holds Try.pinned (OpenSpec.upto fnExactNearSpec)

/-- 'laws.FnLand', WHERE WHAT IT READS IS OF BULK AT MOST 1048576: true; the input reads as it did. -/
def fnLandUptoRow : OpenClaim := { program := "ytoafabcopihniaa", sum := "33773dc4fea7b0d4e0e51060c17b3e1da7c8c5445f2b938721a4577b098836b3", func := "loop.example/g03008/laws.FnLand", spec := "fnLand", apart := false, narrowed := true }
def FnLandUptoSaid : Prop := fnLandUptoRow.holds Try.pinned (OpenSpec.upto fnLandSpec)

/-- 'laws.FnExactDays', WHERE WHAT IT READS IS OF BULK AT MOST 1048576: true; the input reads as it did. -/
def fnExactDaysUptoRow : OpenClaim := { program := "ytoafabcopihniaa", sum := "33773dc4fea7b0d4e0e51060c17b3e1da7c8c5445f2b938721a4577b098836b3", func := "loop.example/g03008/laws.FnExactDays", spec := "fnExactDays", apart := false, narrowed := true }
def FnExactDaysUptoSaid : Prop := fnExactDaysUptoRow.holds Try.pinned (OpenSpec.upto fnExactDaysSpec)

end Rows
end Go.Proofs.Ytoafabcopihniaa
