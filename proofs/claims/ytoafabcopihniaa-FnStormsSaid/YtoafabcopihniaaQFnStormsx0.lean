-- Laid by a program of this session, out of the translation; Lean checks it.
import Derived.Test.YtoafabcopihniaaProg
import Derived.Below
import Derived.Deep.Draws
import Derived.Deep.AppendLies
import Derived.Maps.AppendAt
import Derived.OwnWalk
import Derived.Laws.BytesArg
import Derived.Laws.MakeOwn
import Derived.Laws.OwnMore
import Derived.Deep.OwnRows
import Derived.Tactics
import Derived.Lib.ConvBytes
import Derived.Laws.Slices
import Derived.WalkKit
import Derived.KernelRfl
import Derived.RowKit3
import Derived.Deep.LoopGhost
import Derived.Deep.QuietTactic
import Derived.BigQuiet
import Derived.WideLaws
import Derived.Deep.DeepCutAuto
import Derived.Deep.CutBlock
import Derived.Deep.RegionHeld3
import Derived.Laws.Rows
import Derived.Lib.AppendStr
import Derived.ArgAppend
import Derived.Laws.IdiomCopy
import Derived.OrdersHeld
import Derived.Laws.BitsLemmas
import Derived.RowKit
import Derived.Test.YtoafabcopihniaaWWords
import Derived.Test.YtoafabcopihniaaWLast
import Derived.Test.YtoafabcopihniaaWTab
import Derived.Test.YtoafabcopihniaaWFour
import Derived.Test.YtoafabcopihniaaWQPut
import Derived.Test.YtoafabcopihniaaWApart
import Derived.Test.YtoafabcopihniaaWArr
import Derived.Test.YtoafabcopihniaaWZeros
import Derived.Test.YtoafabcopihniaaWFoot
import Derived.Test.YtoafabcopihniaaWKept
import Derived.Test.YtoafabcopihniaaWShare
import Derived.Test.YtoafabcopihniaaWN
import Derived.Test.YtoafabcopihniaaWFootNe
import Derived.Test.YtoafabcopihniaaWAt
import Derived.Test.YtoafabcopihniaaWEqStruct
import Derived.Test.YtoafabcopihniaaWRepsOne
import Derived.Test.YtoafabcopihniaaWInv
import Derived.Test.YtoafabcopihniaaWInvWords
import Derived.Test.YtoafabcopihniaaWGuard
import Derived.Test.YtoafabcopihniaaWNEv
import Derived.Test.YtoafabcopihniaaWMore
namespace Go.Proofs.Ytoafabcopihniaa.QFnStorms
open Go.RowKit Go.Proofs.YtoafabcopihniaaW.PrintWords Go.Proofs.YtoafabcopihniaaW.PrintLast Go.Proofs.YtoafabcopihniaaW.PrintMore
attribute [local go_sem] max2_int min2_int max_two min_two max_three min_three max_four min_four   -- for this text's walks alone
set_option linter.unusedVariables false
set_option linter.unusedSimpArgs false



def errW : Option Int → Value
  | none => .nilIface
  | some c => .iface 0 (.int .i64 c)
theorem errW_none : errW none = .nilIface := rfl
theorem errW_some (c : Int) : errW (some c) = .iface 0 (.int .i64 c) := rfl

theorem info3 : (Try.prog.info? 3).map (fun i => (i.zero, i.size, i.bytes)) = some (some (.int .i64 0), 1, 8) := by kernel_rfl
theorem info4 : (Try.prog.info? 4).map (fun i => (i.zero, i.size, i.bytes)) = some (some (.bool false), 1, 1) := by kernel_rfl
-- the values' own types

end Go.Proofs.Ytoafabcopihniaa.QFnStorms
