/- Package core, third part: Later. -/
import Derived.Test.YtknlmgcbdcepnaaDoorCorB
set_option linter.unusedVariables false
namespace Go.Proofs.YtknlmgcbdcepnaaDoor
open Go.RowKit

end Go.Proofs.YtknlmgcbdcepnaaDoor
