-- Cut by a program of this session (prune.py) out of the text that print.sh has printed: what this claim doesn't use is left out. Lean checks it.
import Derived.Test.YtncenfihphdipaaWInv
import Derived.Test.YtncenfihphdipaaWFootNe
namespace Go.Proofs.YtncenfihphdipaaW.PrintWords
open Go.RowKit
end Go.Proofs.YtncenfihphdipaaW.PrintWords
namespace Go.Proofs.YtncenfihphdipaaW.PrintLast
section
variable {ops : Array Oper} {a : Act} {o og : Oper} {g : Nat} {t : Tmp} {u : Bool}
end
end Go.Proofs.YtncenfihphdipaaW.PrintLast
