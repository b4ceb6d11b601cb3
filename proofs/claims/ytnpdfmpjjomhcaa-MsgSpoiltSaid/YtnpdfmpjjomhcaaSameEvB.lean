/- Are two events the same: event.Same. Conditions: at most 2^30 dots. -/
import Derived.Test.YtnpdfmpjjomhcaaSameEv
set_option linter.unusedSimpArgs false
set_option linter.unusedVariables false
set_option linter.unnecessarySimpa false
namespace Go.Proofs.Ytnpdfmpjjomhcaa
open Go.RowKit

end Go.Proofs.Ytnpdfmpjjomhcaa
