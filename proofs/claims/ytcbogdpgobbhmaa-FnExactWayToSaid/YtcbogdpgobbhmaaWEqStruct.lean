-- Cut by a program of this session (prune.py) out of the text that print.sh has printed: what this claim doesn't use is left out. Lean checks it.
import Derived.Test.YtcbogdpgobbhmaaWWords
import Derived.Laws.StructEq
/-! ### 53. '==' of structs as_ one Bool -/
namespace Go.Proofs.YtcbogdpgobbhmaaW.PrintWords
open Go.RowKit
section
variable {P : Program} {d : Nat} {xs ys : Array Value} {f : Field} {fs : List Field} {a b : Value} {r s : Bool} {w : World}
end
end Go.Proofs.YtcbogdpgobbhmaaW.PrintWords
