-- Cut by a program of this session (prune.py) out of the text that print.sh has printed: what this claim doesn't use is left out. Lean checks it.
import Derived.Test.YtcbogdpgobbhmaaWInv
import Derived.Test.YtcbogdpgobbhmaaWFootNe
namespace Go.Proofs.YtcbogdpgobbhmaaW.PrintWords
open Go.RowKit
end Go.Proofs.YtcbogdpgobbhmaaW.PrintWords
namespace Go.Proofs.YtcbogdpgobbhmaaW.PrintLast
section
variable {ops : Array Oper} {a : Act} {o og : Oper} {g : Nat} {t : Tmp} {u : Bool}
end
end Go.Proofs.YtcbogdpgobbhmaaW.PrintLast
