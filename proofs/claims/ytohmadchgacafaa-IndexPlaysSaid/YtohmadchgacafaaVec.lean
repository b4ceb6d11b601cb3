/- Vectors: Get, Has. Conditions: as in the text. -/
import Derived.Test.YtohmadchgacafaaKeys
import Derived.Test.YtohmadchgacafaaCel
import Derived.Test.YtohmadchgacafaaMark
import Derived.Test.YtohmadchgacafaaLast
import Derived.WalkSpells
set_option linter.unusedSimpArgs false
set_option linter.unusedVariables false
set_option linter.unnecessarySimpa false
namespace Go.Proofs.Ytohmadchgacafaa
open Go.RowKit
/-! ### Get -/
/-! ### Has -/
end Go.Proofs.Ytohmadchgacafaa
/- Vectors: New, Raise, Take. Conditions: as in the text. -/
namespace Go.Proofs.Ytohmadchgacafaa
open Go.RowKit
/-! ### New -/
end Go.Proofs.Ytohmadchgacafaa
/- Vectors: Raise, Take. Conditions: marks in order, fewer than 2^30. -/
namespace Go.Proofs.Ytohmadchgacafaa
open Go.RowKit
/-! ### Take -/
end Go.Proofs.Ytohmadchgacafaa
