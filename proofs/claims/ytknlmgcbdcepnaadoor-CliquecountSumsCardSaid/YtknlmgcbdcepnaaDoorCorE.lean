/- Package core, fifth part: Check for every graph. -/
import Derived.Test.YtknlmgcbdcepnaaDoorCorD
set_option linter.unusedVariables false
namespace Go.Proofs.YtknlmgcbdcepnaaDoor
open Go.RowKit CoBit

end Go.Proofs.YtknlmgcbdcepnaaDoor
