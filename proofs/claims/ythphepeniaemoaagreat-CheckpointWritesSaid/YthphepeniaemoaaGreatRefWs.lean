/- A map's winners, plainly. Conditions: none. -/
import Derived.Test.YthphepeniaemoaaGreatCanA
import Derived.Test.YthphepeniaemoaaGreatWinners
set_option linter.unusedSimpArgs false
set_option linter.unusedVariables false
set_option linter.unnecessarySimpa false
set_option maxHeartbeats 16000000
set_option maxRecDepth 100000
namespace Go.Proofs.YthphepeniaemoaaGreat
open Go.RowKit
def Rj (l:List Ev):Prop:=l.Pairwise fun x y=>zg x.key y.key=true
theorem Nu {l m:List Ev} (h:Rj l) (k:Rj m) (e:∀ x,x∈l↔x∈m):l=m:=zU (lt:=fun x y:Ev=>zg x.key y.key) (fun x=>FX x.key) (fun _ _ _=>Ik) h k e
/-- the winners of a map, by their keys -/
structure WinsOf (s:MS) (L:List Ev):Prop where
 srt:Rj L
 mem:∀ e,e∈L↔e∈TB s/\(Vr (keyOfS s e.key)).1=e
theorem WinsOf.ext {s:MS} {l m:List Ev} (h:WinsOf s l) (k:WinsOf s m):l=m :=
 Nu h.srt k.srt fun e=>(h.mem e).trans (k.mem e).symm
/-! ### the reference's -/
theorem RMAt.range {w:World} {R:Nat} {x:RMIt} (h:RMAt w R x):w.rangeAt R 0 (RZ x):=fun j v hj=>by
 rw [aw];simp only [RMAt] at h;simp only [World.cell?,h,PL];simpa using hj
end Go.Proofs.YthphepeniaemoaaGreat
