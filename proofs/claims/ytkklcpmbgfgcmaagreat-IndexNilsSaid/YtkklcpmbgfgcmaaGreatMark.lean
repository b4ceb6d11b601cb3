/- Marks: may they be, are they the same. A mark's cells are a dot's. Conditions: at most 2^30 marks. -/
import Derived.Test.YtkklcpmbgfgcmaaGreatDot
import Derived.Test.YtkklcpmbgfgcmaaGreatLoad
set_option linter.unusedSimpArgs false
set_option linter.unusedVariables false
set_option linter.unnecessarySimpa false
namespace Go.Proofs.YtkklcpmbgfgcmaaGreat
open Go.RowKit
/-! ### may marks be? -/
end Go.Proofs.YtkklcpmbgfgcmaaGreat
/- May marks be: the program's check and the reference's. Conditions: at most 2^30 marks. -/
namespace Go.Proofs.YtkklcpmbgfgcmaaGreat
open Go.RowKit
end Go.Proofs.YtkklcpmbgfgcmaaGreat
