/- A clone of an event, its dots in memory of their own. Conditions: at most 2^30 dots. -/
import Derived.Test.YtohmadchgacafaaLoad
import Derived.Test.YtohmadchgacafaaPack
import Derived.OneCell
import Derived.Test.YtohmadchgacafaaKit
import Derived.Lib.AppendStr
import Derived.IntWalk
import Derived.Test.YtohmadchgacafaaMem
import Derived.Test.YtohmadchgacafaaEvs
set_option linter.unusedSimpArgs false
set_option linter.unusedVariables false
set_option linter.unnecessarySimpa false
namespace Go.Proofs.Ytohmadchgacafaa
open Go.RowKit
end Go.Proofs.Ytohmadchgacafaa
/- A clone of an event: event.Clone. Conditions: at most 2^30 dots. -/
namespace Go.Proofs.Ytohmadchgacafaa
open Go.RowKit
end Go.Proofs.Ytohmadchgacafaa
/- Slices of events of one's own. Conditions: none. -/
namespace Go.Proofs.Ytohmadchgacafaa
open Go.RowKit
end Go.Proofs.Ytohmadchgacafaa
