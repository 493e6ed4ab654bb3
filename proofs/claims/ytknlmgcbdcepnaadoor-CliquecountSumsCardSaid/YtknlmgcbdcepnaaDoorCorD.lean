/- Package core, fourth part: Check. -/
import Derived.Test.YtknlmgcbdcepnaaDoorCorC
import Derived.Test.YtknlmgcbdcepnaaDoorRCoF
set_option linter.unusedVariables false
namespace Go.Proofs.YtknlmgcbdcepnaaDoor
open Go.RowKit CoBit

theorem Tab.below2 {w w' : World} {b : Nat} (h : Tab w) (hb : Below b w w') (hB : w.heap.size ≤ b) : Tab w' := h.keep (hb.mono hB)
end Go.Proofs.YtknlmgcbdcepnaaDoor
