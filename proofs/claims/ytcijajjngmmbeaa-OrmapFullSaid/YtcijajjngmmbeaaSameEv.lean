/- Are two events the same: the reference's Same. Conditions: at most 2^30 dots. -/
import Derived.Test.YtcijajjngmmbeaaSame
import Derived.Test.YtcijajjngmmbeaaLoad
set_option linter.unusedSimpArgs false
set_option linter.unusedVariables false
set_option linter.unnecessarySimpa false
namespace Go.Proofs.Ytcijajjngmmbeaa
open Go.RowKit

theorem ev_iff (e f : Ev) : e = f ↔ e.dot = f.dot ∧ e.stamp = f.stamp ∧ e.kind = f.kind ∧ e.key = f.key ∧ e.ck = f.ck ∧ e.over = f.over := by
  cases e; cases f; simp

end Go.Proofs.Ytcijajjngmmbeaa

/- Are two events the same: event.Same. Conditions: at most 2^30 dots. -/
namespace Go.Proofs.Ytcijajjngmmbeaa
open Go.RowKit

end Go.Proofs.Ytcijajjngmmbeaa
