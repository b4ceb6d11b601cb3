/- The reference's map: Alive, Key. Conditions: as in the text. -/
import Derived.Test.YtpbobhfnglikmaaGreatRelP
import Derived.Test.YtpbobhfnglikmaaGreatWin
set_option linter.unusedSimpArgs false
set_option linter.unusedVariables false
set_option linter.unnecessarySimpa false
set_option maxHeartbeats 16000000
set_option maxRecDepth 100000
namespace Go.Proofs.YtpbobhfnglikmaaGreat
open Go.RowKit
/-! ### Key -/
end Go.Proofs.YtpbobhfnglikmaaGreat
