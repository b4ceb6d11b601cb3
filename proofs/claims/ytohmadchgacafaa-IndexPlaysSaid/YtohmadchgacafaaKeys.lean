/- Actors, dots and keys as keys of maps. Conditions: none. -/
import Derived.Test.YtohmadchgacafaaTab
import Derived.Test.YtohmadchgacafaaDot
import Derived.Test.YtohmadchgacafaaEvent
set_option linter.unusedSimpArgs false
set_option linter.unusedVariables false
set_option linter.unnecessarySimpa false
namespace Go.Proofs.Ytohmadchgacafaa
open Go.RowKit
end Go.Proofs.Ytohmadchgacafaa
