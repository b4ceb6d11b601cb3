/- Stamps in order: clock.Less, and the reference's. Conditions: none. -/
import Derived.Test.YtpbobhfnglikmaaGreatDot
import Derived.Test.YtpbobhfnglikmaaGreatHost
import Derived.Test.YtpbobhfnglikmaaGreatOrmP
set_option linter.unusedSimpArgs false
set_option linter.unusedVariables false
set_option linter.unnecessarySimpa false
set_option maxHeartbeats 16000000
set_option maxRecDepth 100000
namespace Go.Proofs.YtpbobhfnglikmaaGreat
open Go.RowKit
def cmpStamp (a b : Stamp) : Int := orI (orI (cmpI a.wall b.wall) (cmpI a.count b.count)) (cmpI a.dev b.dev)
def stampLt (a b : Stamp) : Bool := decide (cmpStamp a b < 0)
def winStep (b e : Ev) : Ev := if stampLt e.stamp b.stamp = true then b else e
def winOf : List Ev → Ev × Bool
 | [] => (ev0, false)
 | x :: r => (r.foldl winStep x, true)
theorem MInv.overOk {s : MS} (hi : MInv s) {x : EvIt} (hx : x ∈ s.K) : ∀ d ∈ x.1.over, dotOk d = true := (evOk_parts (hi.kept x hx).1).2.1
end Go.Proofs.YtpbobhfnglikmaaGreat
