/- Package cookie's tests of texts and times, and the reference's. Conditions: texts of at most 2^30 bytes. -/
import Derived.Test.YtkklcpmbgfgcmaaGreatHost
set_option linter.unusedSimpArgs false
set_option linter.unusedVariables false
set_option linter.unnecessarySimpa false
namespace Go.Proofs.YtkklcpmbgfgcmaaGreat
open Go.RowKit
end Go.Proofs.YtkklcpmbgfgcmaaGreat
