-- Cut by a program of this session (prune.py) out of the text that print.sh has printed: what this claim doesn't use is left out. Lean checks it.
import Derived.Test.YtcbogdpgobbhmaaWN
/-! ### 52. A row that stays read whatever happens to a block (a set of blocks) doesn't lie there -/
namespace Go.Proofs.YtcbogdpgobbhmaaW.PrintWords
open Go.RowKit
namespace Kd
section
variable {α : Type} {d : Kd α} {W : World} {g n : Nat} {S ok : Nat → Prop} {A : Option Addr} {ad : Addr} {xs : List α}
end
end Kd
end Go.Proofs.YtcbogdpgobbhmaaW.PrintWords
