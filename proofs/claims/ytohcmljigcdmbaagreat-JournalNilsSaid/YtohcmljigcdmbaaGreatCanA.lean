/- canon: Most, done, begin, Full. Conditions: as in the text. -/
import Derived.Test.YtohcmljigcdmbaaGreatMkB
import Derived.Test.YtohcmljigcdmbaaGreatIsB
set_option linter.unusedSimpArgs false
set_option linter.unusedVariables false
set_option linter.unnecessarySimpa false
set_option maxHeartbeats 16000000
set_option maxRecDepth 100000
namespace Go.Proofs.YtohcmljigcdmbaaGreat
open Go.RowKit
end Go.Proofs.YtohcmljigcdmbaaGreat
