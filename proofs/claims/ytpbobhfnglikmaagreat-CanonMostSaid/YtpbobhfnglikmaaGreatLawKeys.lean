/- The law OrmapKeys, plainly. Conditions: none. -/
import Derived.Test.YtpbobhfnglikmaaGreatRefW
import Derived.Test.YtpbobhfnglikmaaGreatOrmP
import Derived.Test.YtpbobhfnglikmaaGreatRefR
import Derived.Test.YtpbobhfnglikmaaGreatOpen
set_option linter.unusedSimpArgs false
set_option linter.unusedVariables false
set_option linter.unnecessarySimpa false
set_option maxHeartbeats 16000000
set_option maxRecDepth 100000
namespace Go.Proofs.YtpbobhfnglikmaaGreat
open Go.RowKit
section
variable {H : Type} {enc : TypeId × Value → H} {w : World} {base : Nat} {spare : Nat → Bool} {held : Bool}
open Go.ChangeShapes Go.WideShapes Go.ChangeAt
end
end Go.Proofs.YtpbobhfnglikmaaGreat
