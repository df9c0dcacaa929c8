-- Cut by a program of this session (prune.py) out of the text that print.sh has printed: what this claim doesn't use is left out. Lean checks it.
import Derived.Test.YtcbogdpgobbhmaaWTab
/-! ### 56. Four, five, six operations that may come up next, in any order -/
namespace Go.Proofs.YtcbogdpgobbhmaaW.PrintLast
section
variable {P : Program} {ops : Array Oper} {Q : Exit → Act → World → Prop} {md : Region.Mode} {S : World → Prop} {ds : List Nat} {T : Bool × List (List Nat × List Nat)}
end
end Go.Proofs.YtcbogdpgobbhmaaW.PrintLast
