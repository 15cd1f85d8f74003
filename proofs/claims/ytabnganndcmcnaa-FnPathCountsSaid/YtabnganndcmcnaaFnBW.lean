/- Marks of lists of strings; PathsOf. Conditions: none. -/
import Derived.Test.YtabnganndcmcnaaFnBV
import Derived.Test.YtabnganndcmcnaaFnG
set_option linter.unusedSimpArgs false
set_option linter.unusedVariables false
namespace Go.Proofs.Ytabnganndcmcnaa.Ev
open Go Go.Proofs
set_option maxRecDepth 4000
set_option maxHeartbeats 4000000

end Go.Proofs.Ytabnganndcmcnaa.Ev
