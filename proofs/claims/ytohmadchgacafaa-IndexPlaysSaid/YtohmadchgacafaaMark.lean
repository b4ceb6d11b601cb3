/- Marks: may they be, are they the same. A mark's cells are a dot's. Conditions: at most 2^30 marks. -/
import Derived.Test.YtohmadchgacafaaDot
import Derived.Test.YtohmadchgacafaaLoad
set_option linter.unusedSimpArgs false
set_option linter.unusedVariables false
set_option linter.unnecessarySimpa false
namespace Go.Proofs.Ytohmadchgacafaa
open Go.RowKit
/-! ### may marks be? -/
end Go.Proofs.Ytohmadchgacafaa
/- May marks be: the program's check and the reference's. Conditions: at most 2^30 marks. -/
namespace Go.Proofs.Ytohmadchgacafaa
open Go.RowKit
end Go.Proofs.Ytohmadchgacafaa
