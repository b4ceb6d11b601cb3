/- A clone of an event, its dots in memory of their own. Conditions: at most 2^30 dots. -/
import Derived.Test.YtkklcpmbgfgcmaaGreatLoad
import Derived.Test.YtkklcpmbgfgcmaaGreatPack
import Derived.OneCell
import Derived.Test.YtkklcpmbgfgcmaaGreatKit
import Derived.Lib.AppendStr
import Derived.IntWalk
import Derived.Test.YtkklcpmbgfgcmaaGreatMem
import Derived.Test.YtkklcpmbgfgcmaaGreatEvs
set_option linter.unusedSimpArgs false
set_option linter.unusedVariables false
set_option linter.unnecessarySimpa false
namespace Go.Proofs.YtkklcpmbgfgcmaaGreat
open Go.RowKit
end Go.Proofs.YtkklcpmbgfgcmaaGreat
/- A clone of an event: event.Clone. Conditions: at most 2^30 dots. -/
namespace Go.Proofs.YtkklcpmbgfgcmaaGreat
open Go.RowKit
end Go.Proofs.YtkklcpmbgfgcmaaGreat
/- Slices of events of one's own. Conditions: none. -/
namespace Go.Proofs.YtkklcpmbgfgcmaaGreat
open Go.RowKit
end Go.Proofs.YtkklcpmbgfgcmaaGreat
