/- Which events may be: the reference's Right. Conditions: texts of at most 2^30 bytes, at most 2^30 dots. -/
import Derived.Test.YtcijajjngmmbeaaLoad
set_option linter.unusedSimpArgs false
set_option linter.unusedVariables false
set_option linter.unnecessarySimpa false
namespace Go.Proofs.Ytcijajjngmmbeaa
open Go.RowKit

end Go.Proofs.Ytcijajjngmmbeaa
