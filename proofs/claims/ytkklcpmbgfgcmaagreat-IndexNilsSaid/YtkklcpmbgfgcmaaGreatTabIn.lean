/- Maps as lists of entries: ranged over within a fence. Conditions: none. -/
import Derived.Test.YtkklcpmbgfgcmaaGreatTab
import Derived.Sort.MapsRangeIn
import Derived.RangeFuncSeq
import Derived.Test.YtkklcpmbgfgcmaaGreatKeys
import Derived.Test.YtkklcpmbgfgcmaaGreatCel
import Derived.RangeFuncNested
import Derived.RangeFuncBound
import Derived.RangeFuncCalls
import Derived.RangeFuncLeaves
import Derived.Shelf.Abstract
import Derived.Shelf.AbstractIn
import Derived.WalkKit
import Derived.OwnWalkIn
import Derived.TacticsInMore
import Derived.LoopNIn
import Derived.LoopIn
import Derived.Sort.CutIn
import Derived.Test.YtkklcpmbgfgcmaaGreatClone
import Derived.Maps.AppendAt
set_option linter.unusedSimpArgs false
set_option linter.unusedVariables false
set_option linter.unnecessarySimpa false
namespace Go.Proofs.YtkklcpmbgfgcmaaGreat
open Go.RowKit
section
variable {P : Program} {k : TypeId} {α β : Type} {kv : α → Value} {ok : α → Prop} {vv : β → Value}
variable {F : Fence} {n : Nat} {ops : Array Oper} {rest0 : List Oper} {o : Oper} {a : Act} {Q : Exit → Act → World → Prop}
end
end Go.Proofs.YtkklcpmbgfgcmaaGreat
/- The keys of a map, one by one: maps.Keys and its iterator, at dots and at actors. Conditions: none. -/
namespace Go.Proofs.YtkklcpmbgfgcmaaGreat
open Go.RowKit Go.Shelf
end Go.Proofs.YtkklcpmbgfgcmaaGreat
/- The keys of a map, collected: slices.AppendSeq, slices.Collect, at dots and at actors. Conditions: at most 2^30 keys. -/
namespace Go.Proofs.YtkklcpmbgfgcmaaGreat
open Go.RowKit Go.Shelf
end Go.Proofs.YtkklcpmbgfgcmaaGreat
