/- The map of events: Deads. Conditions: as in the text. -/
import Derived.Test.YtcijajjngmmbeaaOrmH
set_option linter.unusedSimpArgs false
set_option linter.unusedVariables false
set_option linter.unnecessarySimpa false
namespace Go.Proofs.Ytcijajjngmmbeaa
open Go.RowKit

/-- behind what hands back dots of the call's own -/
def RetDotL (L : List Dot) (w : World) (e : Ending) (w' : World) : Prop :=
  ∃ v, e = .returned v ∧ w'.ownsRow w.heap.size 27 3 v L.length (dotVals L) ∧ (v = .slice none 0 0 ↔ L = []) ∧ Below w.heap.size w w'
end Go.Proofs.Ytcijajjngmmbeaa
