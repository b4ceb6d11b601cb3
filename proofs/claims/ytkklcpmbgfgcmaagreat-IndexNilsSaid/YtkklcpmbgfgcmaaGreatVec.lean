/- Vectors: Get, Has. Conditions: as in the text. -/
import Derived.Test.YtkklcpmbgfgcmaaGreatKeys
import Derived.Test.YtkklcpmbgfgcmaaGreatCel
import Derived.Test.YtkklcpmbgfgcmaaGreatMark
import Derived.Test.YtkklcpmbgfgcmaaGreatLast
import Derived.WalkSpells
set_option linter.unusedSimpArgs false
set_option linter.unusedVariables false
set_option linter.unnecessarySimpa false
namespace Go.Proofs.YtkklcpmbgfgcmaaGreat
open Go.RowKit
/-! ### Get -/
/-! ### Has -/
end Go.Proofs.YtkklcpmbgfgcmaaGreat
/- Vectors: New, Raise, Take. Conditions: as in the text. -/
namespace Go.Proofs.YtkklcpmbgfgcmaaGreat
open Go.RowKit
/-! ### New -/
end Go.Proofs.YtkklcpmbgfgcmaaGreat
/- Vectors: Raise, Take. Conditions: marks in order, fewer than 2^30. -/
namespace Go.Proofs.YtkklcpmbgfgcmaaGreat
open Go.RowKit
/-! ### Take -/
end Go.Proofs.YtkklcpmbgfgcmaaGreat
