/- An event that came in as an argument: its value, and its dots in memory. Conditions: none. -/
import Derived.Test.YtepkclldbkhanaaGreatLoad
import Derived.Test.YtepkclldbkhanaaGreatDelta
import Derived.ProofKit
import Derived.Deep.Slices
import Derived.OpenShut
import Derived.Test.YtepkclldbkhanaaGreatClone
import Derived.Test.YtepkclldbkhanaaGreatCel
set_option linter.unusedSimpArgs false
set_option linter.unusedVariables false
set_option linter.unnecessarySimpa false
set_option maxHeartbeats 16000000
set_option maxRecDepth 100000
namespace Go.Proofs.YtepkclldbkhanaaGreat
open Go.ChangeShapes Go.WideShapes Go.ChangeAt Go.RowKit
section
variable {H:Type} {enc:TypeId×Value→H} {P:Program} {w:World} {base:Nat} {spare:Nat→Bool} {held:Bool}
end
section
variable {H:Type} {enc:TypeId×Value→H} {w:World} {spare:Nat→Bool} {held:Bool}
end
section
variable {H:Type} {enc:TypeId×Value→H} {w:World} {base:Nat} {spare:Nat→Bool} {held:Bool}
end
end Go.Proofs.YtepkclldbkhanaaGreat
/- Lists of events and of marks, and dots, that came in as arguments. Conditions: none. -/
namespace Go.Proofs.YtepkclldbkhanaaGreat
open Go.RowKit
section
variable {H:Type} {enc:TypeId×Value→H} {w:World} {base:Nat} {spare:Nat→Bool} {held:Bool}
open Go.ChangeShapes Go.WideShapes Go.ChangeAt
end
end Go.Proofs.YtepkclldbkhanaaGreat
