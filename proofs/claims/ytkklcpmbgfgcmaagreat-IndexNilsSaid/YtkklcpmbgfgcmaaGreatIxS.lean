/- The references on lists of items: Put, ByKeys, Find. Conditions: as in the text. -/
import Derived.Test.YtkklcpmbgfgcmaaGreatIxR
set_option linter.unusedSimpArgs false
set_option linter.unusedVariables false
set_option linter.unnecessarySimpa false
namespace Go.Proofs.YtkklcpmbgfgcmaaGreat
open Go.RowKit
/-! ### ByKeys -/
/-! ### Find -/
end Go.Proofs.YtkklcpmbgfgcmaaGreat
