/- Actors, dots and keys as keys of maps. Conditions: none. -/
import Derived.Test.YtkklcpmbgfgcmaaGreatTab
import Derived.Test.YtkklcpmbgfgcmaaGreatDot
import Derived.Test.YtkklcpmbgfgcmaaGreatEvent
set_option linter.unusedSimpArgs false
set_option linter.unusedVariables false
set_option linter.unnecessarySimpa false
namespace Go.Proofs.YtkklcpmbgfgcmaaGreat
open Go.RowKit
end Go.Proofs.YtkklcpmbgfgcmaaGreat
