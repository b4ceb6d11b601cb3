/- checkpoint.Bytes of no map, or out of range; the reference's Right. Conditions: none. -/
import Derived.Test.YthphepeniaemoaaGreatCkR
import Derived.Test.YthphepeniaemoaaGreatMkB
import Derived.Test.YthphepeniaemoaaGreatRefPut
import Derived.Deep.RegionHeld3
import Derived.Deep.RegionLaw
import Derived.Test.YthphepeniaemoaaGreatCanA
import Derived.Test.YthphepeniaemoaaGreatRefW
import Derived.Test.YthphepeniaemoaaGreatReadK
set_option linter.unusedSimpArgs false
set_option linter.unusedVariables false
set_option linter.unnecessarySimpa false
set_option maxHeartbeats 16000000
set_option maxRecDepth 100000
open Go.Proofs.Tryz
namespace Go.Proofs.YthphepeniaemoaaGreat
open Go.RowKit
/-- may a snapshot be, but for its map? -/
def Ap (d i:Int) (s:Stamp):Bool:=decide (0<=d) && (decide (d<=63) && (decide (0<=i) && (decide (i<=1048576) && eF s)))
theorem z22 {p : Prop} (h : p := by
 go_enter func12, ntmps12
 go_upto_region 1 with fail
 refine aN (fun W hW => ?_)
 have hb : Below w.heap.size w W := by rw [hW.out]; go_grown
 have hR : W.rangeAt w.heap.size 0 (xP d i s y) := by rw [hW.out]; exact Qa _ _ _ _ _ _
 have c0 : W.cell? ⟨w.heap.size, 0, none⟩ = some (.int .i64 d) := hR 0 _ rfl
 have c1 : W.cell? ⟨w.heap.size, 1, none⟩ = some (.int .i64 i) := hR 1 _ rfl
 have hS := FI hR
 clear hW hR
 go_wp2
 all_goals
  go_ret
  exact ⟨au (by rw [HX.out]), hb⟩) : p := h
theorem y74 {p q : Prop} (k : q) (h : PLift q -> p := by
 intro kk
 have HX : Hid (Ap d i s = false) := by unfold Hid Ap; simp <;> omega
 have d0 : decide ((0 : Int) <= d) = true := aR h0
 revert HX d0
 exact kk.down) : p := h ⟨k⟩
theorem vP (d i:Int) (s:Stamp) (y:RMIt) (w:World) :
 Calls prog 12 #[.agg (rkA d i s y)] w fun e w'=>e=.returned (.bool (Ap d i s))/\Below w.heap.size w w':=by
 have HC:=aa (fun (W:World)=>qN s W);by_cases h0:0<=d
 case neg =>
  have HX:Hid (Ap d i s=false):=by unfold Hid Ap;simp <;> omega
  have d0:decide ((0:Int)<=d)=false:=aM h0;clear HC h0
  exact z22
 case pos =>
 by_cases h1:d<=63
 case neg =>
  refine y74 ?_
  intro HX d0
  have d1:decide (d<=63)=false:=aM h1;clear HC h0 h1
  exact z22
 case pos =>
 by_cases h2:0<=i
 case neg =>
  refine y74 ?_
  intro HX d0
  have d1:decide (d<=63)=true:=aR h1;have d2:decide ((0:Int)<=i)=false:=aM h2;clear HC h0 h1 h2
  exact z22
 case pos =>
 by_cases h3:i<=1048576
 case neg =>
  refine y74 ?_
  intro HX d0
  have d1:decide (d<=63)=true:=aR h1;have d2:decide ((0:Int)<=i)=true:=aR h2;have d3:decide (i<=1048576)=false:=aM h3;clear HC h0 h1 h2 h3
  exact z22
 case pos =>
 have HX:Hid (Ap d i s=eF s):=by unfold Hid Ap;rw [aR h0,aR (show d<=63 by omega),aR h2,aR h3];simp
 have d0:decide ((0:Int)<=d)=true:=aR h0;have d1:decide (d<=63)=true:=aR h1;have d2:decide ((0:Int)<=i)=true:=aR h2;have d3:decide (i<=1048576)=true:=aR h3;clear h0 h1 h2 h3;go_enter func12,ntmps12;go_upto_region 1 with fail
 refine aN (fun W hW=>?_);have hb:Below w.heap.size w W:=by rw [hW.out];go_grown
 have hR:W.rangeAt w.heap.size 0 (xP d i s y):=by rw [hW.out];exact Qa _ _ _ _ _ _
 have c0:W.cell? ⟨w.heap.size,0,none⟩=some (.int .i64 d):=hR 0 _ rfl;have c1:W.cell? ⟨w.heap.size,1,none⟩=some (.int .i64 i):=hR 1 _ rfl;have hS:=FI hR;clear hW hR;go_wp2_with (first
  | ((with_reducible refine bz 32 _ w.heap.size 2 (Fq s) (lQ s) rfl _ underlying32 rfl (by kernel_rfl) hS ?_ rfl ?_);exact rfl)
  | (go_at_call 33;(with_reducible refine (HC.out _).mono ?_);rintro e w1 ⟨rfl,hb1⟩))
 all_goals
  go_ret;exact ⟨au (by rw [HX.out]),below2 hb hb1⟩
end Go.Proofs.YthphepeniaemoaaGreat
/- A snapshot's body is read as what it was packed of. Conditions: none. -/
namespace Go.Proofs.YthphepeniaemoaaGreat
open Go.RowKit
theorem LD {dev inc:Nat} {st:Stamp} {full:Bytes} (hd:dev<=63) (hi:inc<=1048576) (hs:eF st=true) (hf:full.length<=1048576):Dn (ckB dev inc st full)=(⟨[],0⟩,dev,inc,st,full):=by
 have e1:=dV 63 dev (aU inc++(iy st++(dL full++[]))) (by omega) hd;have e2:=dV 1048576 inc (iy st++(dL full++[])) (by omega) hi;have e3:=vU hs (dL full++[]);have e4:=nR 1048576 full [] hf (by omega);have hb:ckB dev inc st full=aU dev++(aU inc++(iy st++(dL full++[]))):=by simp [ckB]
 unfold Dn;rw [hb];simp only [e1,e2,e3,e4]
end Go.Proofs.YthphepeniaemoaaGreat
