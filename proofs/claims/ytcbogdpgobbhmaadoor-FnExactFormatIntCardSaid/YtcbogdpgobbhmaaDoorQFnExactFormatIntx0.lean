-- Laid by a program of this session, out of the translation; Lean checks it.
import Derived.Test.YtcbogdpgobbhmaaDoorProg
import Derived.Below
import Derived.Deep.Draws
import Derived.Deep.AppendLies
import Derived.Maps.AppendAt
import Derived.OwnWalk
import Derived.Laws.BytesArg
import Derived.Laws.MakeOwn
import Derived.Laws.OwnMore
import Derived.Deep.OwnRows
import Derived.Tactics
import Derived.Lib.ConvBytes
import Derived.Laws.Slices
import Derived.WalkKit
import Derived.KernelRfl
import Derived.RowKit3
import Derived.Deep.LoopGhost
import Derived.Deep.QuietTactic
import Derived.BigQuiet
import Derived.WideLaws
import Derived.Deep.DeepCutAuto
import Derived.Deep.CutBlock
import Derived.Deep.RegionHeld3
import Derived.Laws.Rows
import Derived.Lib.AppendStr
import Derived.ArgAppend
import Derived.Laws.IdiomCopy
import Derived.OrdersHeld
import Derived.Laws.BitsLemmas
import Derived.RowKit
import Derived.Test.YtcbogdpgobbhmaaDoorShelf
import Derived.Test.YtcbogdpgobbhmaaDoorWWords
import Derived.Test.YtcbogdpgobbhmaaDoorWLast
import Derived.Test.YtcbogdpgobbhmaaDoorWTab
import Derived.Test.YtcbogdpgobbhmaaDoorWFour
import Derived.Test.YtcbogdpgobbhmaaDoorWQPut
import Derived.Test.YtcbogdpgobbhmaaDoorWApart
import Derived.Test.YtcbogdpgobbhmaaDoorWArr
import Derived.Test.YtcbogdpgobbhmaaDoorWZeros
import Derived.Test.YtcbogdpgobbhmaaDoorWFoot
import Derived.Test.YtcbogdpgobbhmaaDoorWKept
import Derived.Test.YtcbogdpgobbhmaaDoorWShare
import Derived.Test.YtcbogdpgobbhmaaDoorWN
import Derived.Test.YtcbogdpgobbhmaaDoorWFootNe
import Derived.Test.YtcbogdpgobbhmaaDoorWAt
import Derived.Test.YtcbogdpgobbhmaaDoorWEqStruct
import Derived.Test.YtcbogdpgobbhmaaDoorWRepsOne
import Derived.Test.YtcbogdpgobbhmaaDoorWInv
import Derived.Test.YtcbogdpgobbhmaaDoorWInvWords
import Derived.Test.YtcbogdpgobbhmaaDoorWGuard
import Derived.Test.YtcbogdpgobbhmaaDoorWNEv
import Derived.Test.YtcbogdpgobbhmaaDoorWMore
namespace Go.Proofs.YtcbogdpgobbhmaaDoor.QFnExactFormatInt
open Go.RowKit Go.Proofs.YtcbogdpgobbhmaaDoorW.PrintWords Go.Proofs.YtcbogdpgobbhmaaDoorW.PrintLast Go.Proofs.YtcbogdpgobbhmaaDoorW.PrintMore
attribute [local go_sem] max2_int min2_int max_two min_two max_three min_three max_four min_four   -- for this text's walks alone
set_option linter.unusedVariables false
set_option linter.unusedSimpArgs false



def errW : Option Int → Value
  | none => .nilIface
  | some c => .iface 0 (.int .i64 c)
theorem errW_none : errW none = .nilIface := rfl
theorem errW_some (c : Int) : errW (some c) = .iface 0 (.int .i64 c) := rfl

theorem info5 : (Tryd.prog.info? 5).map (fun i => (i.zero, i.size, i.bytes)) = some (some (.int .u8 0), 1, 1) := by kernel_rfl
-- the values' own types

end Go.Proofs.YtcbogdpgobbhmaaDoor.QFnExactFormatInt
