/- Stamps in order: clock.Less, and the reference's. Conditions: none. -/
import Derived.Test.YthphepeniaemoaaGreatDot
import Derived.Test.YthphepeniaemoaaGreatHost
import Derived.Test.YthphepeniaemoaaGreatOrmP
set_option linter.unusedSimpArgs false
set_option linter.unusedVariables false
set_option linter.unnecessarySimpa false
set_option maxHeartbeats 16000000
set_option maxRecDepth 100000
namespace Go.Proofs.YthphepeniaemoaaGreat
open Go.RowKit
def QN (a b:Stamp):Int:=orI (orI (rY a.wall b.wall) (rY a.count b.count)) (rY a.dev b.dev)
def RY (a b:Stamp):Bool:=decide (QN a b<0)
def RP (b e:Ev):Ev:=if RY e.stamp b.stamp=true then b else e
def Vr:List Ev->Ev×Bool
 | []=>(ev0,false)
 | x :: r=>(r.foldl RP x,true)
theorem MInv.overOk {s:MS} (hi:MInv s) {x:EvIt} (hx:x∈s.K):∀ d∈x.1.over,bn d=true:=(fH (hi.kept x hx).1).2.1
end Go.Proofs.YthphepeniaemoaaGreat
