/- Lists of dots compared, bytes compared. Conditions: at most 2^30 of them. -/
import Derived.Test.YtcijajjngmmbeaaOver
import Derived.Test.YtcijajjngmmbeaaSameB
import Derived.Test.YtcijajjngmmbeaaPack
import Derived.WalkSmall
set_option linter.unusedSimpArgs false
set_option linter.unusedVariables false
set_option linter.unnecessarySimpa false
namespace Go.Proofs.Ytcijajjngmmbeaa
open Go.RowKit

end Go.Proofs.Ytcijajjngmmbeaa
