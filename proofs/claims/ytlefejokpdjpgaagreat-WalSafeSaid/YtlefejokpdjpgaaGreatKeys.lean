/- Actors, dots and keys as keys of maps. Conditions: none. -/
import Derived.Test.YtlefejokpdjpgaaGreatTab
import Derived.Test.YtlefejokpdjpgaaGreatDot
import Derived.Test.YtlefejokpdjpgaaGreatEvent
set_option linter.unusedSimpArgs false
set_option linter.unusedVariables false
set_option linter.unnecessarySimpa false
set_option maxHeartbeats 16000000
set_option maxRecDepth 100000
namespace Go.Proofs.YtlefejokpdjpgaaGreat
open Go.RowKit
end Go.Proofs.YtlefejokpdjpgaaGreat
