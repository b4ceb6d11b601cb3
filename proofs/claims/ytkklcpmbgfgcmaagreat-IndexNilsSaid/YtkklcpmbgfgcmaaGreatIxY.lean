/- The law's comparison Is; what IndexTurned's list is, plainly. Conditions: as in the text. -/
import Derived.Test.YtkklcpmbgfgcmaaGreatIxW
set_option linter.unusedSimpArgs false
set_option linter.unusedVariables false
set_option linter.unnecessarySimpa false
namespace Go.Proofs.YtkklcpmbgfgcmaaGreat
open Go.RowKit
variable {lo : Nat}
end Go.Proofs.YtkklcpmbgfgcmaaGreat
