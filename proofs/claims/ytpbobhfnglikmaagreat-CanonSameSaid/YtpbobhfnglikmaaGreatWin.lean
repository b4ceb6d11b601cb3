/- Stamps in order: clock.Less, and the reference's. Conditions: none. -/
import Derived.Test.YtpbobhfnglikmaaGreatDot
import Derived.Test.YtpbobhfnglikmaaGreatHost
import Derived.Test.YtpbobhfnglikmaaGreatOrmP
set_option linter.unusedSimpArgs false
set_option linter.unusedVariables false
set_option linter.unnecessarySimpa false
set_option maxHeartbeats 16000000
set_option maxRecDepth 100000
namespace Go.Proofs.YtpbobhfnglikmaaGreat
open Go.RowKit
theorem MInv.overOk {s : MS} (hi : MInv s) {x : EvIt} (hx : x ∈ s.K) : ∀ d ∈ x.1.over, dotOk d = true := (evOk_parts (hi.kept x hx).1).2.1
end Go.Proofs.YtpbobhfnglikmaaGreat
