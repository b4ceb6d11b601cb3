/- The reference's disk: Truncate, Arm. Conditions: as in the text. -/
import Derived.Test.YtlefejokpdjpgaaGreatDRefD
set_option linter.unusedSimpArgs false
set_option linter.unusedVariables false
set_option linter.unnecessarySimpa false
set_option maxHeartbeats 16000000
set_option maxRecDepth 100000
namespace Go.Proofs.YtlefejokpdjpgaaGreat
open Go.RowKit
end Go.Proofs.YtlefejokpdjpgaaGreat
