/- The references' reader by value: fail, ReadNum, ReadInt. Conditions: at most 2^30 bytes. -/
import Derived.Test.YtepkclldbkhanaaGreatLast
import Derived.Test.YtepkclldbkhanaaGreatRefGet
import Derived.Test.YtepkclldbkhanaaGreatLoad
import Derived.Test.YtepkclldbkhanaaGreatRead
import Derived.Laws.ResultCell
import Derived.Deep.RegionHeld3
set_option linter.unusedSimpArgs false
set_option linter.unusedVariables false
set_option linter.unnecessarySimpa false
set_option maxHeartbeats 16000000
set_option maxRecDepth 100000
open Go.Proofs.Tryz
namespace Go.Proofs.YtepkclldbkhanaaGreat
open Go.RowKit
theorem bI {P:Program} {fn:Func} {R:Ending→World→Prop} {a:Act} {w:World} (p u:Tmp) (ty t:TypeId) (g:Nat) (c:Array Value) (d:TypeDesc) (v:Value) (hr:fn.results=#[.cell p ty,.tmp u])
 (hp:a.tmps.getD p undef=.pointer (some ⟨g,0,none⟩)) (hv:a.tmps.getD u undef=v) (hg:w.heap[g]?=some (.cells c t (0,0))) (hu:P.underlying ty=some d) (hd:d.isRow=true) (hi:(P.info? ty).map (·.size)=some c.size)
 (hde:a.defers=[]) (hR:R (.returned (.tuple #[.agg c,v])) w):bodyPost P fn R .ret a w:=by
 have h1:w.rangeAt g 0 c.toList:=fun j v hv=>by
  exact z97
 have h2:=run_loadVar_mid (P:=P) w g 0 ty c.toList d h1 hu hd (by simpa using hi);refine bodyPost_ret ?_ hde hR;rw [results_cell_tmp hr,hp,hv];simp [asAddr,h2,Result.andThen]
/-- two results, both structs that lie in blocks of their own -/
theorem gI {P:Program} {fn:Func} {R:Ending→World→Prop} {a:Act} {w:World} (p p2:Tmp) (ty ty2 t t2:TypeId) (g g2:Nat) (c c2:Array Value) (d d2:TypeDesc) (hr:fn.results=#[.cell p ty,.cell p2 ty2])
 (hp:a.tmps.getD p undef=.pointer (some ⟨g,0,none⟩)) (hp2:a.tmps.getD p2 undef=.pointer (some ⟨g2,0,none⟩)) (hg:w.heap[g]?=some (.cells c t (0,0))) (hg2:w.heap[g2]?=some (.cells c2 t2 (0,0)))
 (hu:P.underlying ty=some d) (hd:d.isRow=true) (hi:(P.info? ty).map (·.size)=some c.size) (hu2:P.underlying ty2=some d2) (hd2:d2.isRow=true) (hi2:(P.info? ty2).map (·.size)=some c2.size)
 (hde:a.defers=[]) (hR:R (.returned (.tuple #[.agg c,.agg c2])) w):bodyPost P fn R .ret a w:=by
 have h1:w.rangeAt g 0 c.toList:=fun j v hv=>by
  exact z97
 have h1b:w.rangeAt g2 0 c2.toList:=fun j v hv=>by
  rw [Nat.zero_add];simp only [World.cell?,hg2];simpa using hv
 have h2:=run_loadVar_mid (P:=P) w g 0 ty c.toList d h1 hu hd (by simpa using hi);have h3:=run_loadVar_mid (P:=P) w g2 0 ty2 c2.toList d2 h1b hu2 hd2 (by simpa using hi2);refine bodyPost_ret ?_ hde hR;have hp':a.tmps[p]?.getD undef=.pointer (some ⟨g,0,none⟩):=by simpa using hp
 have hp2':a.tmps[p2]?.getD undef=.pointer (some ⟨g2,0,none⟩):=by simpa using hp2
 simp [results,hr,hp',hp2',asAddr,h2,h3,Sem.run_bind,Result.andThen]
/-- a reader by value -/
abbrev bn (r:Rd) (a:Option Addr) (cap:Nat):Value:=.agg #[.slice a r.b.length cap,.int .i64 r.e]
def dL (r:Rd) (a:Option Addr) (cap:Nat):Array Value:=#[.slice a r.b.length cap,.int .i64 r.e]
/-- behind a read: the reader behind it, and a value; the bytes lie where they lay in w0 -/
def iI (r:Rd) (v:Value) (w0 w:World) (x:Ending) (w':World):Prop :=
 ∃ a cap,x=.returned (.tuple #[bn r a cap,v])∧BytesIn w0 a r.b∧r.b.length≤cap∧Below w.heap.size w w'
theorem vg {r:Rd} {v:Value} {w0 w w':World} {a:Option Addr} {cap n:Nat} {e:Int} (hn:n=r.b.length) (he:e=r.e) (hb:Below w.heap.size w w') (hin:BytesIn w0 a r.b) (hc:n≤cap):iI r v w0 w (.returned (.tuple #[.agg #[.slice a n cap,.int .i64 e],v])) w' :=
 ⟨a,cap,by rw [hn,he],hin,by omega,hb⟩
/-- block R holds a reader -/
def RdBlk (w:World) (R:Nat) (r:Rd) (a:Option Addr) (cap:Nat):Prop:=w.heap[R]?=some (.cells (dL r a cap) 66 (0,0))
theorem RdBlk.lt {w:World} {R:Nat} {r:Rd} {a:Option Addr} {cap:Nat} (h:RdBlk w R r a cap):R<w.heap.size:=lt_of_block h
theorem RdBlk.below {w w':World} {R:Nat} {r:Rd} {a:Option Addr} {cap:Nat} (h:RdBlk w R r a cap) (hb:Below w.heap.size w w'):RdBlk w' R r a cap:=(hb.block _ h.lt).trans h
theorem RdBlk.two {w:World} {R:Nat} {r:Rd} {a:Option Addr} {cap:Nat} (h:RdBlk w R r a cap):w.cell? ⟨R,0,none⟩=some (.slice a r.b.length cap)∧w.cell? ⟨R,1,none⟩=some (.int .i64 r.e)∧w.frozen? ⟨R,0,none⟩=false∧w.frozen? ⟨R,1,none⟩=false:=dW h
theorem RdBlk.range {w:World} {R:Nat} {r:Rd} {a:Option Addr} {cap:Nat} (h:RdBlk w R r a cap):w.rangeAt R 0 [.slice a r.b.length cap,.int .i64 r.e]:=fun j v hv=>by
 rw [Nat.zero_add];have h':w.heap[R]?=some (.cells #[.slice a r.b.length cap,.int .i64 r.e] 66 (0,0)):=h;simp only [World.cell?,h'];simpa using hv
theorem RdBlk.new (w:World) (r:Rd) (a:Option Addr) (cap:Nat):RdBlk (w.alloc (.cells (dL r a cap) 66)) w.heap.size r a cap:=heap_alloc_last w _
abbrev bQ:Array Value:=#[.slice none 0 0,.int .i64 0]
theorem jF (a:Option Addr) (n cap:Nat) (e0 e:Int) (w:World):Calls prog 59 #[.agg #[.slice a n cap,.int .i64 e0],.int .i64 e] w fun x w'=>x=.returned (.agg #[.slice a n cap,.int .i64 e])∧Below w.heap.size w w':=by
 go_enter func59,ntmps59;go_upto_region 1 with fail
 refine y63 ?_
 intro W hW hbt
 have hB:W.heap[w.heap.size]?=some (.cells #[.slice a n cap,.int .i64 e0] 66 (0,0)):=by
  rw [hW.out,Below.heap_alloc _ _ _ (by simp)];exact heap_alloc_last w _
 have hZ:W.heap[w.heap.size+1]?=some (.cells bQ 66 (0,0)):=by
  rw [hW.out];have:=heap_alloc_last (w.alloc (Obj.cells #[.slice a n cap,.int .i64 e0] 66)) (Obj.cells bQ 66);simpa using this
 obtain ⟨q0,q1,f0,f1⟩:=dW hB;clear hW hB;go_wp2_with (refine wpList_store_row rfl 66 _ _ rfl (w.heap.size+1) #[.slice a n cap,.int .i64 e] rfl rfl 66 bQ hZ (by kernel_rfl) rfl (by kernel_rfl) ?_)
 refine dP 4 66 66 (w.heap.size+1) #[.slice a n cap,.int .i64 e] _ rfl rfl (setRow_heap _ _ _ _ _ _ hZ) underlying66 rfl (by kernel_rfl) rfl ?_;exact ⟨rfl,below_setRow hbt (by omega) _⟩
theorem z17 {p : Prop} (h : p := by rw [hW.out]; unfold RdBlk; rw [Below.heap_alloc _ _ _ (by simp)]; exact heap_alloc_last w _) : p := h
theorem z9 {p : Prop} (h : p := by
 have := heap_alloc_last (w.alloc (Obj.cells (dL r a cap) 66)) (Obj.cells bQ 66)
 rw [show (w.alloc (Obj.cells (dL r a cap) 66)).heap.size = w.heap.size + 1 by simp] at this
 exact this) : p := h
theorem z117 {p : Prop} (h : p := by
 rw [HE.out]
 have hbf := below_setRow hbt (show w.heap.size ≤ w.heap.size + 1 by omega) #[.slice a r.b.length cap, .int .i64 r.e]
 exact ⟨a, cap, rfl, hby, hc, hbf⟩) : p := h
theorem z116 {p : Prop} (h : p := by
 rw [HE.out]
 have hbf := below_setRow hbt (show w.heap.size ≤ w.heap.size + 1 by omega) #[.slice a r.b.length cap, .int .i64 e]
 exact ⟨a, cap, rfl, hby, hc, hbf⟩) : p := h
theorem z122 {p : Prop} (h : p := by
 rw [hW.out]
 exact z9) : p := h
theorem y67 {p q : Prop} (k : q) (h : PLift q → p := by
 intro kk
 have h0W := h0.trans (hbt.mono h0.size)
 have hin := hby.kept h0W
 obtain ⟨q0, q1, f0, f1⟩ := hB.two
 have hrg := hB.range
 revert h0W hin q0 q1 f0 f1 hrg
 exact kk.down) : p := h ⟨k⟩
theorem y7 {p q : Prop} (k : q) (h : PLift q → p := by
 intro kk
 refine y63 ?_
 intro W hW hbt
 have hB : RdBlk W w.heap.size r a cap := by
  exact z17
 have hZ : W.heap[w.heap.size + 1]? = some (.cells bQ 66 (0, 0)) := by
  exact z122
 refine y67 ?_
 intro h0W hin q0 q1 f0 f1 hrg
 revert W hW hbt hB hZ h0W hin q0 q1 f0 f1 hrg
 exact kk.down) : p := h ⟨k⟩
theorem y5 {p q : Prop} (k : q) (h : PLift q → p := by
 intro kk
 refine y63 ?_
 intro W hW hbt
 have hB : RdBlk W w.heap.size r a cap := by
      exact z17
 have hZ : W.heap[w.heap.size + 1]? = some (.cells bQ 66 (0, 0)) := by
      exact z122
 refine y67 ?_
 intro h0W hin q0 q1 f0 f1 hrg
 revert W hW hbt hB hZ h0W hin q0 q1 f0 f1 hrg
 exact kk.down) : p := h ⟨k⟩
theorem di (r:Rd) (a:Option Addr) (cap most:Nat) (w0 w:World) (h0:Below w0.heap.size w0 w) (hl:r.b.length≤1073741824) (hc:r.b.length≤cap) (hm:most<18446744073709551616) (hby:BytesIn w0 a r.b) :
 Calls prog 24 #[bn r a cap,.int .u64 most] w (iI (bg most r).1 (.int .u64 (bg most r).2) w0 w):=by
 by_cases he:r.e=0
 ·have hd:=fun (W:World) (h:BytesIn W a r.b)=>xh a cap r.b W hl h
  refine y50 ?_
  intro hfit HV
  obtain ⟨n,k,e,hg⟩:∃ n k e,bP r.b=(n,k,e):=⟨_,_,_,rfl⟩;rw [hg] at hfit HV;simp only [hg] at hd;simp only at hfit HV;clear hg;have HG:=Lib.hid hd;have hq:(r.e == 0)=true:=beq_iff_eq.2 he;have hq2:(r.e != 0)=false:=by rw [bne_eq_false_iff_eq];exact he
  clear hd he;rcases hfit with ⟨rfl,hn,hk0,hkl⟩ | ⟨he2,rfl,rfl⟩
  ·by_cases hmn:most<n
   ·have HE:Hid (bg most r=(⟨r.b,3⟩,0)):=by rw [Hid,HV.out,if_pos rfl,if_pos hmn]
    clear HV;go_enter func24,ntmps24;go_upto_region 1 with fail
    refine y7 ?_
    intro W hW hbt hB hZ h0W hin q0 q1 f0 f1 hrg
    clear hW
    go_wp2_with (first
     | ((with_reducible refine ah 66 _ w.heap.size 0 [.slice a r.b.length cap,.int .i64 r.e] (bn r a cap) rfl _ underlying66 rfl (by kernel_rfl) hrg ?_ rfl ?_);exact rfl)
     | (go_at_call 56;(with_reducible refine (HG.out _ hin).mono ?_);rintro x w1 ⟨rfl,rfl⟩)
     | (go_at_call 59;(with_reducible refine (jF _ _ _ _ _ _).mono ?_);rintro x w2 ⟨rfl,hb2⟩;replace hZ:=(hb2.block _ (lt_of_block hZ)).trans hZ;replace hbt:=below2 hbt hb2)
     | (refine wpList_store_row rfl 66 _ _ rfl (w.heap.size+1) #[.slice a r.b.length cap,.int .i64 3] rfl rfl 66 bQ hZ (by kernel_rfl) rfl (by kernel_rfl) ?_)
     )
    refine bI 4 5 66 66 (w.heap.size+1) #[.slice a r.b.length cap,.int .i64 3] _ (.int .u64 0) rfl rfl rfl (setRow_heap _ _ _ _ _ _ hZ) underlying66 rfl (by kernel_rfl) rfl ?_;rw [HE.out];have hbf:=below_setRow hbt (show w.heap.size≤w.heap.size+1 by omega) #[.slice a r.b.length cap,.int .i64 3];exact ⟨a,cap,rfl,hby,hc,hbf⟩
   ·have HE:Hid (bg most r=(⟨r.b.drop k,0⟩,n)):=by rw [Hid,HV.out,if_pos rfl,if_neg hmn]
    clear HV;go_enter func24,ntmps24;go_upto_region 1 with fail
    refine y7 ?_
    intro W hW hbt hB hZ h0W hin q0 q1 f0 f1 hrg
    clear hW
    go_wp2_with (first
     | (go_at_call 56;(with_reducible refine (HG.out _ hin).mono ?_);rintro x w1 ⟨rfl,rfl⟩)
     | (refine wpList_store_row rfl 66 _ _ rfl (w.heap.size+1) _ rfl rfl 66 bQ hZ (by kernel_rfl) rfl (by kernel_rfl) ?_))
    all_goals
     refine bI 4 5 66 66 (w.heap.size+1) _ _ (.int .u64 n) rfl rfl rfl (setRow_heap _ _ _ _ _ _ hZ) underlying66 rfl (by kernel_rfl) rfl ?_;rw [HE.out];have hbf:=fun c:Array Value=>below_setRow hbt (show w.heap.size≤w.heap.size+1 by omega) c;refine vg (by simp only [List.length_drop]) rfl (hbf _) ?_ (by omega);first | exact hby.tail k | exact Or.inl (List.drop_eq_nil_of_le (by omega))
  ·refine y22 ?_
   intro hne hne2
   have HE:Hid (bg most r=(⟨r.b,e⟩,0)):=by rw [Hid,HV.out,if_neg (by omega)]
   clear HV he2;go_enter func24,ntmps24;go_upto_region 1 with fail
   refine y5 ?_
   intro W hW hbt hB hZ h0W hin q0 q1 f0 f1 hrg
   clear hW
   go_wp2_with (first
        | ((with_reducible refine ah 66 _ w.heap.size 0 [.slice a r.b.length cap,.int .i64 r.e] (bn r a cap) rfl _ underlying66 rfl (by kernel_rfl) hrg ?_ rfl ?_);exact rfl)
        | (go_at_call 56;(with_reducible refine (HG.out _ hin).mono ?_);rintro x w1 ⟨rfl,rfl⟩)
        | (go_at_call 59;(with_reducible refine (jF _ _ _ _ _ _).mono ?_);rintro x w2 ⟨rfl,hb2⟩;replace hZ:=(hb2.block _ (lt_of_block hZ)).trans hZ;replace hbt:=below2 hbt hb2)
        | (refine wpList_store_row rfl 66 _ _ rfl (w.heap.size+1) #[.slice a r.b.length cap,.int .i64 e] rfl rfl 66 bQ hZ (by kernel_rfl) rfl (by kernel_rfl) ?_)
        )
   refine bI 4 5 66 66 (w.heap.size+1) #[.slice a r.b.length cap,.int .i64 e] _ (.int .u64 0) rfl rfl rfl (setRow_heap _ _ _ _ _ _ hZ) underlying66 rfl (by kernel_rfl) rfl ?_
   exact z116
 ·have hne:(r.e == 0)=false:=beq_eq_false_iff_ne.2 he
  have hne2:(r.e != 0)=true:=by rw [bne_iff_ne];exact he
  have HE:Hid (bg most r=(r,0)):=by unfold Hid bg;rw [if_neg he]
  clear he;go_enter func24,ntmps24;go_upto_region 1 with fail
  refine y7 ?_
  intro W hW hbt hB hZ h0W hin q0 q1 f0 f1 hrg
  clear hW
  go_wp2_with (first
   | ((with_reducible refine ah 66 _ w.heap.size 0 [.slice a r.b.length cap,.int .i64 r.e] (bn r a cap) rfl _ underlying66 rfl (by kernel_rfl) hrg ?_ rfl ?_);exact rfl)
   | (refine wpList_store_row rfl 66 _ _ rfl (w.heap.size+1) #[.slice a r.b.length cap,.int .i64 r.e] rfl rfl 66 bQ hZ (by kernel_rfl) rfl (by kernel_rfl) ?_)
   )
  refine bI 4 5 66 66 (w.heap.size+1) #[.slice a r.b.length cap,.int .i64 r.e] _ (.int .u64 0) rfl rfl rfl (setRow_heap _ _ _ _ _ _ hZ) underlying66 rfl (by kernel_rfl) rfl ?_
  exact z117
theorem Nu {most:Int} {r:Rd} {n k m:Nat} (he:r.e=0) (hg:bP r.b=(n,k,0)) (h0:0<most) (hp:n % 2=0) (hm:m=n / 2):iq most r=if most<(m:Int) then (⟨r.b,3⟩,0) else (⟨r.b.drop k,0⟩,(m:Int)):=by
 unfold iq jO;rw [if_pos he,hg];simp only [if_true,hp,← hm];rw [show max most 0=most by omega];by_cases h:most<(m:Int)
 ·rw [if_pos (Or.inl h),if_pos h]
 ·rw [if_neg (by omega),if_neg h]
theorem Pq {most:Int} {r:Rd} {n k m:Nat} (he:r.e=0) (hg:bP r.b=(n,k,0)) (h0:0<most) (hp:n % 2=1) (hm:m=n / 2):iq most r=if most≤(m:Int) then (⟨r.b,3⟩,0) else (⟨r.b.drop k,0⟩,-(m:Int) - 1):=by
 unfold iq jO;rw [if_pos he,hg];simp only [if_true,show ¬ n % 2=0 by omega,if_false,← hm];rw [show max most 0=most by omega];by_cases h:most≤(m:Int)
 ·rw [if_pos (by omega),if_pos h]
 ·rw [if_neg (by omega),if_neg h]
theorem z19 {p : Prop} (h : p := by
 refine y67 ?_
 intro h0W hin q0 q1 f0 f1 hrg
 clear hW
 go_wp2_with (first
      | ((with_reducible refine ah 66 _ w.heap.size 0 [.slice a r.b.length cap, .int .i64 r.e] (bn r a cap) rfl _ underlying66 rfl (by kernel_rfl) hrg ?_ rfl ?_); exact rfl)
      | (go_at_call 56; (with_reducible refine (HG.out _ hin).mono ?_); rintro x w1 ⟨rfl, rfl⟩)
      | (go_at_call 59; (with_reducible refine (jF _ _ _ _ _ _).mono ?_); rintro x w2 ⟨rfl, hb2⟩; replace hZ := (hb2.block _ (lt_of_block hZ)).trans hZ; replace hbt := below2 hbt hb2)
      | (refine wpList_store_row rfl 66 _ _ rfl (w.heap.size + 1) #[.slice a r.b.length cap, .int .i64 3] rfl rfl 66 bQ hZ (by kernel_rfl) rfl (by kernel_rfl) ?_)
      )
 refine bI 4 5 66 66 (w.heap.size + 1) #[.slice a r.b.length cap, .int .i64 3] _ (.int .i64 0) rfl rfl rfl (setRow_heap _ _ _ _ _ _ hZ) underlying66 rfl (by kernel_rfl) rfl ?_
 rw [HE.out]
 have hbf := below_setRow hbt (show w.heap.size ≤ w.heap.size + 1 by omega) #[.slice a r.b.length cap, .int .i64 3]
 exact ⟨a, cap, rfl, hby, hc, hbf⟩) : p := h
theorem z66 {p : Prop} (h : p := by
 go_enter func147, ntmps147
 go_upto_region 1 with fail
 refine y63 ?_
 intro W hW hbt
 have hB : RdBlk W w.heap.size r a cap := by
      exact z17
 have hZ : W.heap[w.heap.size + 1]? = some (.cells bQ 66 (0, 0)) := by
      exact z122
 exact z19) : p := h
theorem EU (r:Rd) (a:Option Addr) (cap:Nat) (most:Int) (w0 w:World) (h0:Below w0.heap.size w0 w) (hl:r.b.length≤1073741824) (hc:r.b.length≤cap) (hm0:0<most) (hm:most<9223372036854775807) (hby:BytesIn w0 a r.b) :
 Calls prog 147 #[bn r a cap,.int .i64 most] w (iI (iq most r).1 (.int .i64 (iq most r).2) w0 w):=by
 by_cases he:r.e=0
 ·have hd:=fun (W:World) (h:BytesIn W a r.b)=>xh a cap r.b W hl h
  have hfit:=kV r.b;obtain ⟨n,k,e,hg⟩:∃ n k e,bP r.b=(n,k,e):=⟨_,_,_,rfl⟩;rw [hg] at hfit;simp only [hg] at hd;simp only at hfit;have HG:=Lib.hid hd;have hq:(r.e == 0)=true:=beq_iff_eq.2 he;have hq2:(r.e != 0)=false:=by rw [bne_eq_false_iff_eq];exact he
  clear hd;rcases hfit with ⟨rfl,hn,hk0,hkl⟩ | ⟨he2,rfl,rfl⟩
  ·obtain ⟨m,hmm⟩:∃ m,m=n / 2:=⟨_,rfl⟩
   have hm2:(n:Int) / 2=(m:Int):=by omega
   have hmb:m<9223372036854775808:=by omega
   have hdm:decide (0<most)=true:=decide_eq_true hm0;by_cases hp:n % 2=0
   ·have HV:=Lib.hid (Nu he hg hm0 hp hmm)
    have h2:(n:Int) % 2=0:=by omega
    have HGS:=Lib.hid hg;clear he hg hmm hp;by_cases hgt:most<(m:Int)
    ·have HE:=Lib.hid (HV.out.trans (if_pos hgt))
     have d1:=decide_eq_true hgt;clear HV hgt
     exact z66
    ·have HE:=Lib.hid (HV.out.trans (if_neg hgt))
     have d1:=decide_eq_false hgt;have hle:(m:Int)≤most:=by omega
     clear HV hgt;go_enter func147,ntmps147;go_upto_region 1 with fail
     refine y5 ?_
     intro W hW hbt hB hZ h0W hin q0 q1 f0 f1 hrg
     clear hW
     go_wp2_with (first
          | (go_at_call 56;(with_reducible refine (HG.out _ hin).mono ?_);rintro x w1 ⟨rfl,rfl⟩)
          | (refine wpList_store_row rfl 66 _ _ rfl (w.heap.size+1) _ rfl rfl 66 bQ hZ (by kernel_rfl) rfl (by kernel_rfl) ?_))
     all_goals
          refine bI 4 5 66 66 (w.heap.size+1) _ _ (.int .i64 (m:Int)) rfl rfl rfl (setRow_heap _ _ _ _ _ _ hZ) underlying66 rfl (by kernel_rfl) rfl ?_;rw [HE.out];have hbf:=fun c:Array Value=>below_setRow hbt (show w.heap.size≤w.heap.size+1 by omega) c;refine vg (by simp only [List.length_drop]) rfl (hbf _) ?_ (by omega);first | exact hby.tail k | exact Or.inl (List.drop_eq_nil_of_le (by omega))
   ·have HV:=Lib.hid (Pq he hg hm0 (by omega) hmm)
    have h2:(n:Int) % 2=1:=by omega
    have HGS:=Lib.hid hg;clear he hg hmm hp;by_cases hgt:most≤(m:Int)
    ·have HE:=Lib.hid (HV.out.trans (if_pos hgt))
     have d1:=decide_eq_true hgt;clear HV
     exact z66
    ·have HE:=Lib.hid (HV.out.trans (if_neg hgt))
     have d1:=decide_eq_false hgt;have hle:(m:Int)<most:=by omega
     clear HV hgt;go_enter func147,ntmps147;go_upto_region 1 with fail
     refine y5 ?_
     intro W hW hbt hB hZ h0W hin q0 q1 f0 f1 hrg
     clear hW
     go_wp2_with (first
          | (go_at_call 56;(with_reducible refine (HG.out _ hin).mono ?_);rintro x w1 ⟨rfl,rfl⟩)
          | (refine wpList_store_row rfl 66 _ _ rfl (w.heap.size+1) _ rfl rfl 66 bQ hZ (by kernel_rfl) rfl (by kernel_rfl) ?_))
     all_goals
          refine bI 4 5 66 66 (w.heap.size+1) _ _ (.int .i64 (-(m:Int) - 1)) rfl rfl rfl (setRow_heap _ _ _ _ _ _ hZ) underlying66 rfl (by kernel_rfl) rfl ?_;rw [HE.out];have hbf:=fun c:Array Value=>below_setRow hbt (show w.heap.size≤w.heap.size+1 by omega) c;refine vg (by simp only [List.length_drop]) rfl (hbf _) ?_ (by omega);first | exact hby.tail k | exact Or.inl (List.drop_eq_nil_of_le (by omega))
  ·refine y22 ?_
   intro hne hne2
   have HE:Hid (iq most r=(⟨r.b,e⟩,0)):=by unfold Hid iq;rw [if_pos he,hg,if_neg (by simp only;omega)]
   have HGS:=Lib.hid hg;clear he2 he hg;go_enter func147,ntmps147;go_upto_region 1 with fail
   refine y5 ?_
   intro W hW hbt hB hZ h0W hin q0 q1 f0 f1 hrg
   clear hW
   go_wp2_with (first
        | ((with_reducible refine ah 66 _ w.heap.size 0 [.slice a r.b.length cap,.int .i64 r.e] (bn r a cap) rfl _ underlying66 rfl (by kernel_rfl) hrg ?_ rfl ?_);exact rfl)
        | (go_at_call 56;(with_reducible refine (HG.out _ hin).mono ?_);rintro x w1 ⟨rfl,rfl⟩)
        | (go_at_call 59;(with_reducible refine (jF _ _ _ _ _ _).mono ?_);rintro x w2 ⟨rfl,hb2⟩;replace hZ:=(hb2.block _ (lt_of_block hZ)).trans hZ;replace hbt:=below2 hbt hb2)
        | (refine wpList_store_row rfl 66 _ _ rfl (w.heap.size+1) #[.slice a r.b.length cap,.int .i64 e] rfl rfl 66 bQ hZ (by kernel_rfl) rfl (by kernel_rfl) ?_)
        )
   refine bI 4 5 66 66 (w.heap.size+1) #[.slice a r.b.length cap,.int .i64 e] _ (.int .i64 0) rfl rfl rfl (setRow_heap _ _ _ _ _ _ hZ) underlying66 rfl (by kernel_rfl) rfl ?_
   exact z116
 ·have hne:(r.e == 0)=false:=beq_eq_false_iff_ne.2 he
  have hne2:(r.e != 0)=true:=by rw [bne_iff_ne];exact he
  have HE:Hid (iq most r=(r,0)):=by unfold Hid iq;rw [if_neg he]
  clear he;go_enter func147,ntmps147;go_upto_region 1 with fail
  refine y7 ?_
  intro W hW hbt hB hZ h0W hin q0 q1 f0 f1 hrg
  clear hW
  go_wp2_with (first
   | ((with_reducible refine ah 66 _ w.heap.size 0 [.slice a r.b.length cap,.int .i64 r.e] (bn r a cap) rfl _ underlying66 rfl (by kernel_rfl) hrg ?_ rfl ?_);exact rfl)
   | (refine wpList_store_row rfl 66 _ _ rfl (w.heap.size+1) #[.slice a r.b.length cap,.int .i64 r.e] rfl rfl 66 bQ hZ (by kernel_rfl) rfl (by kernel_rfl) ?_)
   )
  refine bI 4 5 66 66 (w.heap.size+1) #[.slice a r.b.length cap,.int .i64 r.e] _ (.int .i64 0) rfl rfl rfl (setRow_heap _ _ _ _ _ _ hZ) underlying66 rfl (by kernel_rfl) rfl ?_
  exact z117
theorem Nl {most:Nat} {r:Rd} {b1:Bytes} {e1:Int} {n:Nat} (h:bg most r=(⟨b1,e1⟩,n)) (he:e1≠0):aN most r=(⟨r.b,e1⟩,[]):=by
 unfold aN;by_cases h0:r.e=0
 ·rw [if_pos h0,h]
  simp only [if_neg he];have:b1=r.b:=by
   unfold bg at h;rw [if_pos h0] at h;split at h
   ·split at h
    ·cases h;rfl
    ·cases h;exact absurd rfl he
   ·cases h;rfl
  rw [this]
 ·rw [if_neg h0]
  unfold bg at h;rw [if_neg h0] at h
  cases h;rfl
theorem Gw {most:Nat} {r:Rd} {b1:Bytes} {n:Nat} (h:bg most r=(⟨b1,0⟩,n)) (hn:b1.length<n):aN most r=(⟨r.b,2⟩,[]):=by
 have h0:r.e=0:=by
  by_cases h0:r.e=0
  ·exact h0
  ·unfold bg at h;rw [if_neg h0] at h;cases h;exact absurd rfl h0
 unfold aN;rw [if_pos h0,h];simp only [if_true,if_pos hn]
theorem JE {most:Nat} {r:Rd} {b1:Bytes} {n:Nat} (h:bg most r=(⟨b1,0⟩,n)) (hn:¬ b1.length<n):aN most r=(⟨b1.drop n,0⟩,b1.take n):=by
 have h0:r.e=0:=by
  by_cases h0:r.e=0
  ·exact h0
  ·unfold bg at h;rw [if_neg h0] at h;cases h;exact absurd rfl h0
 unfold aN;rw [if_pos h0,h];simp only [if_true,if_neg hn]
theorem y54 {p q : Prop} (k : q) (h : PLift q → p := by
 intro kk
 try simp only [pS]
 refine wpAnyH_done (by kernel_rfl) ?_ _
 refine NoPanic.normal ?_
 exact kk.down) : p := h ⟨k⟩
theorem y30 {p q : Prop} (k : q) (h : PLift q → p := by
 intro kk
 replace hZ := (hb4.block _ (lt_of_block hZ)).trans hZ
 replace hB := hB.below hb4
 replace hbt := below2 hbt hb4
 replace h0W := h0W.trans (hb4.mono h0W.size)
 have hbne : Hid (w.heap.size + 1 < w1.heap.size) := lt_of_block hZ1
 obtain ⟨p0, p1, g0, g1⟩ := hX.two
 have hrg := hB.range
 revert hZ hB hbt h0W hbne p0 p1 g0 g1 hrg
 exact kk.down) : p := h ⟨k⟩
theorem y70 {p q : Prop} (k : q) (h : PLift q → p := by
 intro kk
 refine au (fun W4 hW4 => ?_)
 have hb4 : Below w1.heap.size w1 W4 := by rw [hW4.out]; go_grown
 have hZ1 := hZ
 have hX : RdBlk W4 w1.heap.size ⟨b1, 0⟩ a1 c1 := by rw [hW4.out]; exact RdBlk.new w1 ⟨b1, 0⟩ a1 c1
 refine y30 ?_
 revert W4 hW4 hb4 hZ1 hX
 exact kk.down) : p := h ⟨k⟩
theorem jT (r:Rd) (a:Option Addr) (cap most:Nat) (w0 w:World) (h0:Below w0.heap.size w0 w) (hl:r.b.length≤1073741824) (hc:r.b.length≤cap) (hm0:0<most) (hm:most≤1073741824) (hby:BytesIn w0 a r.b) :
 Calls prog 26 #[bn r a cap,.int .i64 most] w (iI (aN most r).1 (.string (mkS (aN most r).2)) w0 w):=by
 have hnum:=fun (W:World) (h:Below w0.heap.size w0 W)=>di r a cap most w0 W h hl hc (by omega) hby;have hfit:=bf most r;obtain ⟨b1,e1,n,hg⟩:∃ b1 e1 n,bg most r=(⟨b1,e1⟩,n):=⟨_,_,_,rfl⟩;simp only [hg] at hnum;rw [hg] at hfit;simp only at hfit;obtain ⟨hfb,hfn⟩:=hfit;have HN:=Lib.hid hnum;have hdm:decide (0<most)=true:=decide_eq_true hm0;have XP:decide ((0:Int)<(most:Int))=true:=decide_eq_true (by omega);clear hnum;by_cases he1:e1=0
 ·subst he1
  by_cases hbn:b1.length<n
  ·have HE:=Lib.hid (Gw hg hbn)
   have d1:=decide_eq_true hbn;clear hg;go_enter func26,ntmps26;go_upto_region 1 with fail
   refine y5 ?_
   intro W hW hbt hB hZ h0W hin q0 q1 f0 f1 hrg
   clear hW
   go_upto_region 5 with (first
        | ((with_reducible refine ah 66 _ w.heap.size 0 [.slice a r.b.length cap,.int .i64 r.e] (bn r a cap) rfl _ underlying66 rfl (by kernel_rfl) hrg ?_ rfl ?_);exact rfl)
        | (go_at_call 24;(with_reducible refine (HN.out _ h0W).mono ?_);rintro x w1 ⟨a1,c1,rfl,hin1,hc1,hb1⟩;replace hZ:=(hb1.block _ (lt_of_block hZ)).trans hZ;replace hB:=hB.below hb1;replace hbt:=below2 hbt hb1;replace h0W:=h0W.trans (hb1.mono h0W.size))
        | (refine aB 66 _ _ _ #[.slice a1 b1.length c1,.int .i64 0] rfl rfl (by kernel_rfl) rfl (by kernel_rfl) ?_)
        )
   clear q0 q1 f0 f1 hrg
   refine y70 ?_
   intro W4 hW4 hb4 hZ1 hX
   clear hZ hB hbt h0W
   intro hZ hB hbt h0W hbne p0 p1 g0 g1 hrg;clear hW4;go_wp2_with (first
        | ((with_reducible refine ah 66 _ w.heap.size 0 [.slice a r.b.length cap,.int .i64 r.e] (bn r a cap) rfl _ underlying66 rfl (by kernel_rfl) hrg ?_ rfl ?_);exact rfl)
        | (go_at_call 59;(with_reducible refine (jF _ _ _ _ _ _).mono ?_);rintro x w2 ⟨rfl,hb2⟩;replace hZ:=(hb2.block _ (lt_of_block hZ)).trans hZ;replace hbt:=below2 hbt hb2)
        | (refine wpList_store_row rfl 66 _ _ rfl (w.heap.size+1) #[.slice a r.b.length cap,.int .i64 2] rfl rfl 66 bQ hZ (by kernel_rfl) rfl (by kernel_rfl) ?_)
        )
   refine bI 4 5 66 66 (w.heap.size+1) #[.slice a r.b.length cap,.int .i64 2] _ (.string ⟨#[]⟩) rfl rfl rfl (setRow_heap _ _ _ _ _ _ hZ) underlying66 rfl (by kernel_rfl) rfl ?_;rw [HE.out];have hbf:=below_setRow hbt (show w.heap.size≤w.heap.size+1 by omega) #[.slice a r.b.length cap,.int .i64 2];exact ⟨a,cap,rfl,hby,hc,hbf⟩
  ·have HE:=Lib.hid (JE hg hbn)
   have d1:=decide_eq_false hbn;clear hg;go_enter func26,ntmps26;go_upto_region 1 with fail
   refine y5 ?_
   intro W hW hbt hB hZ h0W hin q0 q1 f0 f1 hrg
   clear hW
   go_upto_region 5 with (first
        | ((with_reducible refine ah 66 _ w.heap.size 0 [.slice a r.b.length cap,.int .i64 r.e] (bn r a cap) rfl _ underlying66 rfl (by kernel_rfl) hrg ?_ rfl ?_);exact rfl)
        | (go_at_call 24;(with_reducible refine (HN.out _ h0W).mono ?_);rintro x w1 ⟨a1,c1,rfl,hin1,hc1,hb1⟩;replace hZ:=(hb1.block _ (lt_of_block hZ)).trans hZ;replace hB:=hB.below hb1;replace hbt:=below2 hbt hb1;replace h0W:=h0W.trans (hb1.mono h0W.size))
        | (refine aB 66 _ _ _ #[.slice a1 b1.length c1,.int .i64 0] rfl rfl (by kernel_rfl) rfl (by kernel_rfl) ?_)
        )
   clear q0 q1 f0 f1 hrg
   refine y70 ?_
   intro W4 hW4 hb4 hZ1 hX
   clear hZ hB hbt h0W
   intro hZ hB hbt h0W hbne p0 p1 g0 g1 hrg;clear hW4;go_upto_region 9 with fail
   have h00:=h0.size;have hkp:∀ cs:Array Value,(W4.drew.setRow (w.heap.size+1) cs).cell? ⟨w1.heap.size,0,none⟩=some (.slice a1 b1.length c1):=fun cs=>by
        have:=hbne.out;rw [World.cell?_of_block (aI _ _ _ _ (by simp only;omega))];exact p0
   refine wp_region_noPanic ?_;refine wp_region_held_drew (S:=fun W'=>W'.cell? ⟨w1.heap.size,0,none⟩=some (.slice a1 b1.length c1)∧BytesIn W' a1 b1) (by kernel_rfl) ⟨p0,hin1.kept h0W.drew⟩ (fun hHeld=>?_);refine tH (v:=?_) 0 34 rfl (Or.inl ⟨by rfl,?_⟩) ?_
   case refine_2 => exact z20
   try simp only [pS]
   refine tH (v:=?_) 1 35 rfl (Or.inl ⟨by rfl,?_⟩) ?_
   case refine_2 => exact z20
   try simp only [pS]
   refine tH (v:=?_) 2 36 rfl (Or.inl ⟨by rfl,?_⟩) ?_
   case refine_2 => exact z20
   try simp only [pS]
   refine tH (v:=?_) 5 39 rfl (Or.inl ⟨by rfl,?_⟩) ?_
   case refine_2 => exact z20
   try simp only [pS]
   refine tH (v:=?_) 6 40 rfl (Or.inl ⟨by rfl,?_⟩) ?_
   case refine_2 => exact z20
   try simp only [pS]
   refine tH (v:=?_) 7 41 rfl (Or.inl ⟨by rfl,?_⟩) ?_
   case refine_2 => exact z20
   try simp only [pS]
   refine tH 3 37 rfl (Or.inl ⟨by rfl,fun W hSW=>gU _ _ _ _ _ rfl _ (Ew W a1 b1.length c1 .u64 n (by omega))⟩) ?_;try simp only [pS]
   refine tH 8 42 rfl (Or.inl ⟨by rfl,fun W hSW=>gU _ _ _ _ _ rfl _ (OL W a1 b1.length c1 .u64 n (by omega))⟩) ?_;try simp only [pS]
   refine tH 9 43 rfl (Or.inl ⟨by rfl,fun W hSW=>Oy _ _ _ rfl _ (uO hSW.2 n c1 (by omega))⟩) ?_;try simp only [pS]
   refine tH (v:=?_) 4 38 rfl (Or.inl ⟨by rfl,?_⟩) ?_
   case refine_2 => exact z20
   try simp only [pS]
   refine wpAnyH_ready (rs:=[10]) (by kernel_rfl) (by simp) ?_;refine AllReadyH.cons rfl (fun K hK=>?_) AllReadyH.nil;refine dY rfl 66 _ _ rfl (w.heap.size+1) #[.slice (nZ a1 c1 n 1) (b1.length - n) (c1 - n),.int .i64 0] rfl rfl 66 bQ hZ (by kernel_rfl) rfl (by kernel_rfl) ?_;refine hK.out _ _ ?_ (fun hHeld=>?_)
   ·exact ⟨hkp _,hin1.kept (below_setRow h0W.drew (by omega) _)⟩
   clear hK K;try simp only [pS]
   refine tH (v:=?_) 11 5 rfl (Or.inl ⟨by rfl,?_⟩) ?_
   case refine_2 => exact z20
   refine y54 ?_
   go_wp2;refine bI 4 5 66 66 (w.heap.size+1) _ _ (.string (mkS (b1.take n))) rfl rfl rfl (setRow_heap _ _ _ _ _ _ hZ) underlying66 rfl (by kernel_rfl) rfl ?_;rw [HE.out];exact vg (by simp only [List.length_drop]) rfl (below_setRow hbt.drew (by omega) _) (hin1.cut hc1 n) (by omega)
 ·have hne:(e1 == 0)=false:=by rw [beq_eq_false_iff_ne];exact he1
  have hne2:(e1 != 0)=true:=by rw [bne_iff_ne];exact he1
  have HE:=Lib.hid (Nl hg he1);clear hg he1;go_enter func26,ntmps26;go_upto_region 1 with fail
  refine y7 ?_
  intro W hW hbt hB hZ h0W hin q0 q1 f0 f1 hrg
  clear hW
  go_upto_region 5 with (first
   | ((with_reducible refine ah 66 _ w.heap.size 0 [.slice a r.b.length cap,.int .i64 r.e] (bn r a cap) rfl _ underlying66 rfl (by kernel_rfl) hrg ?_ rfl ?_);exact rfl)
   | (go_at_call 24;(with_reducible refine (HN.out _ h0W).mono ?_);rintro x w1 ⟨a1,c1,rfl,hin1,hc1,hb1⟩;replace hZ:=(hb1.block _ (lt_of_block hZ)).trans hZ;replace hB:=hB.below hb1;replace hbt:=below2 hbt hb1;replace h0W:=h0W.trans (hb1.mono h0W.size))
   | (refine aB 66 _ _ _ #[.slice a1 b1.length c1,.int .i64 e1] rfl rfl (by kernel_rfl) rfl (by kernel_rfl) ?_)
   )
  clear q0 q1 f0 f1 hrg;refine au (fun W4 hW4=>?_);have hb4:Below w1.heap.size w1 W4:=by rw [hW4.out];go_grown
  have hZ1:=hZ;have hX:RdBlk W4 w1.heap.size ⟨b1,e1⟩ a1 c1:=by rw [hW4.out];exact RdBlk.new w1 ⟨b1,e1⟩ a1 c1
  refine y30 ?_
  clear hZ hB hbt h0W
  intro hZ hB hbt h0W hbne p0 p1 g0 g1 hrg
  clear hW4;go_wp2_with (first
   | ((with_reducible refine ah 66 _ w.heap.size 0 [.slice a r.b.length cap,.int .i64 r.e] (bn r a cap) rfl _ underlying66 rfl (by kernel_rfl) hrg ?_ rfl ?_);exact rfl)
   | (go_at_call 59;(with_reducible refine (jF _ _ _ _ _ _).mono ?_);rintro x w2 ⟨rfl,hb2⟩;replace hZ:=(hb2.block _ (lt_of_block hZ)).trans hZ;replace hbt:=below2 hbt hb2)
   | (refine wpList_store_row rfl 66 _ _ rfl (w.heap.size+1) #[.slice a r.b.length cap,.int .i64 e1] rfl rfl 66 bQ hZ (by kernel_rfl) rfl (by kernel_rfl) ?_)
   )
  refine bI 4 5 66 66 (w.heap.size+1) #[.slice a r.b.length cap,.int .i64 e1] _ (.string ⟨#[]⟩) rfl rfl rfl (setRow_heap _ _ _ _ _ _ hZ) underlying66 rfl (by kernel_rfl) rfl ?_;rw [HE.out];have hbf:=below_setRow hbt (show w.heap.size≤w.heap.size+1 by omega) #[.slice a r.b.length cap,.int .i64 e1];exact ⟨a,cap,rfl,hby,hc,hbf⟩
def jZ (l:List Bool):List Value:=l.map Value.bool
/-- behind ReadFlags -/
def La (r:Rd) (fl:List Bool) (w0 w:World) (x:Ending) (w':World):Prop :=
 ∃ a cap v,x=.returned (.tuple #[bn r a cap,v])∧BytesIn w0 a r.b∧r.b.length≤cap∧w'.ownsRow w.heap.size 4 1 v fl.length (jZ fl)∧Below w.heap.size w w'
theorem uy {r:Rd} {w0 w w':World} {a:Option Addr} {cap:Nat} (hb:Below w.heap.size w w') (hin:BytesIn w0 a r.b) (hc:r.b.length≤cap):La r [] w0 w (.returned (.tuple #[bn r a cap,.slice none 0 0])) w' :=
 ⟨a,cap,_,rfl,hin,hc,World.ownsRow_nil _ _ _ _,hb⟩
theorem KU (c k:Nat) (hk:k<5):(iY c).take (k+1)=(iY c).take k++[decide (c / 2 ^ k % 2=1)]:=by
 have:k=0∨k=1∨k=2∨k=3∨k=4:=by omega
 rcases this with rfl | rfl | rfl | rfl | rfl <;> simp [iY]
theorem Ar {w:World} {base:Nat} {e:TypeId} {size:Nat} {v:Value} {n:Nat} {xs:List Value} (h:w.ownsRow base e size v n xs) {g:Nat} (hg:g<base) (cs:Array Value):(w.setRow g cs).ownsRow base e size v n xs :=
 kJ h (fun k hk=>aI _ _ _ _ (by omega))
theorem zZ (r:Rd) (a:Option Addr) (cap:Nat) (w0 w:World) (h0:Below w0.heap.size w0 w) (hl:r.b.length≤1073741824) (hc:r.b.length≤cap) (hby:BytesIn w0 a r.b) :
 Calls prog 107 #[bn r a cap,.int .i64 5] w (La (dB r).1 (dB r).2 w0 w):=by
 obtain ⟨i0,hi,hz0,hz1,hz2⟩:=info_parts Tryz.infoBool;by_cases he:r.e=0
 ·refine y56 ?_
  intro HV
  have hq:(r.e == 0)=true:=beq_iff_eq.2 he;have hq2:(r.e != 0)=false:=by rw [bne_eq_false_iff_eq];exact he
  clear he;by_cases hn:r.b=[]
  ·have hqn:((r.b.length:Int) == 0)=true:=by rw [hn];rfl
   have HE:Hid (dB r=(⟨r.b,2⟩,[])):=by rw [Hid,HV.out,if_pos hn]
   clear hn HV;go_enter func107,ntmps107;go_upto_region 1 with fail
   refine y5 ?_
   intro W hW hbt hB hZ h0W hin q0 q1 f0 f1 hrg
   clear hW
   go_wp2_with (first
        | ((with_reducible refine ah 66 _ w.heap.size 0 [.slice a r.b.length cap,.int .i64 r.e] (bn r a cap) rfl _ underlying66 rfl (by kernel_rfl) hrg ?_ rfl ?_);exact rfl)
        | (go_at_call 59;(with_reducible refine (jF _ _ _ _ _ _).mono ?_);rintro x w2 ⟨rfl,hb2⟩;replace hZ:=(hb2.block _ (lt_of_block hZ)).trans hZ;replace hbt:=below2 hbt hb2)
        | (refine wpList_store_row rfl 66 _ _ rfl (w.heap.size+1) #[.slice a r.b.length cap,.int .i64 2] rfl rfl 66 bQ hZ (by kernel_rfl) rfl (by kernel_rfl) ?_)
        )
   refine bI 4 5 66 66 (w.heap.size+1) #[.slice a r.b.length cap,.int .i64 2] _ (.slice none 0 0) rfl rfl rfl (setRow_heap _ _ _ _ _ _ hZ) underlying66 rfl (by kernel_rfl) rfl ?_;rw [HE.out];exact uy (r:=⟨r.b,2⟩) (below_setRow hbt (show w.heap.size≤w.heap.size+1 by omega) #[.slice a r.b.length cap,.int .i64 2]) hby hc
  ·have hpos:0<r.b.length:=List.length_pos_iff.2 hn
   have hqn:((r.b.length:Int) == 0)=false:=by rw [beq_eq_false_iff_ne];omega
   have Xd:=hby;rcases Xd with hb | ⟨A,off,rfl,hba⟩
   ·exact absurd hb hn
   have hh:r.b.headD 0=r.b[0]:=Bv hpos;have Uf:=hba 0 hpos;rw [hh] at HV;obtain ⟨c,hcc⟩:∃ c,c=r.b[0]:=⟨_,rfl⟩;rw [← hcc] at HV Uf;rw [Nat.add_zero] at Uf;have hcl:=c.toNat_lt;clear hcc hh;go_enter func107,ntmps107;go_upto_region 1 with fail
   refine y63 ?_
   intro W hW hbt
   have hB:RdBlk W w.heap.size r (some ⟨A,off,none⟩) cap:=by
        exact z17
   have hZ:W.heap[w.heap.size+1]?=some (.cells bQ 66 (0,0)):=by
        rw [hW.out];have:=heap_alloc_last (w.alloc (Obj.cells (dL r (some ⟨A,off,none⟩) cap) 66)) (Obj.cells bQ 66);rw [show (w.alloc (Obj.cells (dL r (some ⟨A,off,none⟩) cap) 66)).heap.size=w.heap.size+1 by simp] at this;exact this
   refine y67 ?_
   intro h0W hin q0 q1 f0 f1 hrg
   clear hW
   have c0:=kept h0W Uf;go_upto_region 9 with fail
   refine au (fun W1 hW1=>?_);have hb1:Below W.heap.size W W1:=by rw [hW1.out];go_grown
   have hown0:W1.ownsRow W.heap.size 4 1 (.slice (some ⟨W.heap.size,0,none⟩) 0 0) 0 (jZ []):=by rw [hW1.out];exact World.ownsRow_made _ _ _ (Nat.le_refl _) (by decide) rfl
   clear hW1 q0 q1 f0 f1 hrg c0 hin;go_wp2;go_loopw [6,7,8] (fun x out i wr=>∃ k:Nat,k≤5∧i=.int .i64 k∧x=.int .i64 ((c.toNat / 2 ^ k:Nat):Int)∧wr.ownsRow W.heap.size 4 1 out k (jZ ((iY c.toNat).take k))∧Below W.heap.size W wr) (fun _ _ i _=>5 - (intOf i).toNat)
   case atStart=>exact ⟨0,by omega,rfl,by simp,hown0,hb1⟩
   case round =>
        obtain ⟨k,hk,rfl,rfl,hown,hbw⟩:=hrel;have hzw:=hbw.size;have hnx:=KU c.toNat k;have hdv:c.toNat / 2 ^ k / 2=c.toNat / 2 ^ (k+1):=by rw [Nat.div_div_eq_div_mul,Nat.pow_succ]
        have hml:c.toNat / 2 ^ k≤255:=Nat.le_trans (Nat.div_le_self _ _) (by omega);obtain ⟨m,hm⟩:∃ m,m=c.toNat / 2 ^ k:=⟨_,rfl⟩;rw [← hm] at hnx hdv hml ⊢;by_cases hlt:k<5
        ·have HN:=Lib.hid (hnx hlt)
         have HD:=Lib.hid hdv;have HM:=Lib.hid hm;obtain ⟨b,hb⟩:∃ b,b=decide (m % 2=1):=⟨_,rfl⟩;have hbq:((m:Int) % 2 == 1)=b:=by
          rw [hb];by_cases h2:m % 2=1
          ·rw [decide_eq_true h2,beq_iff_eq];omega
          ·rw [decide_eq_false h2,beq_eq_false_iff_ne];omega
         have HB:=Lib.hid hb;clear hnx hdv hm hb;go_wp2_with (at_builtin;go_loud (refine wpList_append_own _ rfl _ _ 177 rfl W.heap.size 4 i0 (.bool false) 1 1 underlying177 hi hz0 hz1 hz2 rfl (by decide) _ _ _ rfl (hown.alloc _) ⟨wr.heap.size,0,none⟩ 1 1 [.bool b] rfl rfl (cell_one_new _ _ _) (by simp [Value.oneCell']) (by unfold maxLen;omega) (by omega) (by simp;omega) ?_))
         intro v' w2 hown3 hgrow _;have hb3:=(hbw.alloc hzw (Obj.cells #[.bool b] 4)).grown hgrow (by simp;omega) (fun k hk=>(hown.lt k hk).1);go_wp2;go_roundw
         case rel=>exact ⟨k+1,by omega,by go_num,by rw [← HD.out];go_num,by rw [HN.out,← HB.out];simpa [jZ] using hown3,hb3⟩
         case measure=>simp [intOf];omega
        ·obtain rfl:k=5:=by omega
         have HM:=Lib.hid hm;have o7:=below2 hbt hbw;have h0R:=h0W.trans (hbw.mono h0W.size);have hZR:=(hbw.block _ (lt_of_block hZ)).trans hZ;have hBR:=hB.below hbw;have hin:=hby.kept h0R;obtain ⟨q0,q1,f0,f1⟩:=hBR.two;have hrg:=hBR.range;have hlen:(jZ (List.take 5 (iY c.toNat))).length=5:=rfl;have hrw:wr.ownsRow W.heap.size 4 1 _ 5 (jZ (iY c.toNat)):=hown;have hgt:w.heap.size+1<W.heap.size:=lt_of_block hZ;clear hnx hdv hm hlt hZ hB hbt h0W hbw;have hZ:=hZR;have hbt:=o7;by_cases h32:c.toNat<32
         ·have hm0:m=0:=by rw [HM.out];omega
          subst hm0;have HE:Hid (dB r=(⟨r.b.drop 1,0⟩,iY c.toNat)):=by rw [Hid,HV.out,if_neg hn,if_pos h32]
          clear h32 HV hn;go_wp2_with (first
            | (refine nz rfl _ (gU _ _ _ _ _ rfl _ (show (Instr.sliceAt 22 (.slice (some ⟨A,off,none⟩) r.b.length cap) (some (.int .i64 1)) none none).run prog _=.ok (.slice (nZ (some ⟨A,off,none⟩) cap 1 1) (r.b.length - 1) (cap - 1)) _ from Ew _ (some ⟨A,off,none⟩) r.b.length cap .i64 1 hpos)) ?_)
            | (refine wpList_store_row rfl 66 _ _ rfl (w.heap.size+1) _ rfl rfl 66 bQ hZ (by kernel_rfl) rfl (by kernel_rfl) ?_))
          refine bI 4 5 66 66 (w.heap.size+1) _ _ _ rfl rfl rfl (setRow_heap _ _ _ _ _ _ hZ) underlying66 rfl (by kernel_rfl) rfl ?_;rw [HE.out];exact ⟨_,_,_,by simp only [bn,List.length_drop];rfl,hby.cut hc 1,by simp only [List.length_drop];omega,jh (Ar hrw (by omega) _) (by omega),below_setRow hbt (by omega) _⟩
         ·have hm0:0<m:=by rw [HM.out];omega
          have HE:Hid (dB r=(⟨r.b,1⟩,[])):=by rw [Hid,HV.out,if_neg hn,if_neg h32]
          clear h32 HV hn;go_wp2_with (first
            | ((with_reducible refine ah 66 _ w.heap.size 0 [.slice (some ⟨A,off,none⟩) r.b.length cap,.int .i64 r.e] (bn r (some ⟨A,off,none⟩) cap) rfl _ underlying66 rfl (by kernel_rfl) hrg ?_ rfl ?_);exact rfl)
            | (go_at_call 59;(with_reducible refine (jF _ _ _ _ _ _).mono ?_);rintro x w2 ⟨rfl,hb2⟩;replace hZ:=(hb2.block _ (lt_of_block hZ)).trans hZ;replace hbt:=below2 hbt hb2)
            | (refine wpList_store_row rfl 66 _ _ rfl (w.heap.size+1) #[.slice (some ⟨A,off,none⟩) r.b.length cap,.int .i64 1] rfl rfl 66 bQ hZ (by kernel_rfl) rfl (by kernel_rfl) ?_)
            )
          refine bI 4 5 66 66 (w.heap.size+1) #[.slice (some ⟨A,off,none⟩) r.b.length cap,.int .i64 1] _ (.slice none 0 0) rfl rfl rfl (setRow_heap _ _ _ _ _ _ hZ) underlying66 rfl (by kernel_rfl) rfl ?_;rw [HE.out];exact uy (r:=⟨r.b,1⟩) (below_setRow hbt (show w.heap.size≤w.heap.size+1 by omega) #[.slice (some ⟨A,off,none⟩) r.b.length cap,.int .i64 1]) hby hc
 ·have hne:(r.e == 0)=false:=beq_eq_false_iff_ne.2 he
  have hne2:(r.e != 0)=true:=by rw [bne_iff_ne];exact he
  have HE:Hid (dB r=(r,[])):=by unfold Hid dB;rw [if_neg he]
  clear he;go_enter func107,ntmps107;go_upto_region 1 with fail
  refine y7 ?_
  intro W hW hbt hB hZ h0W hin q0 q1 f0 f1 hrg
  clear hW
  go_wp2_with (first
   | ((with_reducible refine ah 66 _ w.heap.size 0 [.slice a r.b.length cap,.int .i64 r.e] (bn r a cap) rfl _ underlying66 rfl (by kernel_rfl) hrg ?_ rfl ?_);exact rfl)
   | (go_at_call 59;(with_reducible refine (jF _ _ _ _ _ _).mono ?_);rintro x w2 ⟨rfl,hb2⟩;replace hZ:=(hb2.block _ (lt_of_block hZ)).trans hZ;replace hbt:=below2 hbt hb2)
   | (refine wpList_store_row rfl 66 _ _ rfl (w.heap.size+1) #[.slice a r.b.length cap,.int .i64 r.e] rfl rfl 66 bQ hZ (by kernel_rfl) rfl (by kernel_rfl) ?_)
   )
  refine bI 4 5 66 66 (w.heap.size+1) #[.slice a r.b.length cap,.int .i64 r.e] _ (.slice none 0 0) rfl rfl rfl (setRow_heap _ _ _ _ _ _ hZ) underlying66 rfl (by kernel_rfl) rfl ?_;rw [HE.out];exact uy (r:=⟨r.b,r.e⟩) (below_setRow hbt (show w.heap.size≤w.heap.size+1 by omega) #[.slice a r.b.length cap,.int .i64 r.e]) hby hc
abbrev ik:Array Value:=#[.int .i64 0,.int .i64 0,.int .i64 0]
theorem gy {w:World} {g g2:Nat} {o o2:Array Value} {t t2:TypeId} (c c2:Array Value) (hne:g≠g2) (h1:w.heap[g]?=some (.cells o t (0,0))) (h2:w.heap[g2]?=some (.cells o2 t2 (0,0))) :
 ((w.setRow g c).setRow g2 c2).heap[g]?=some (.cells c t (0,0))∧((w.setRow g c).setRow g2 c2).heap[g2]?=some (.cells c2 t2 (0,0)) :=
 ⟨(aI _ _ _ _ hne.symm).trans (setRow_heap _ _ _ _ _ _ h1),setRow_heap _ _ _ _ _ _ ((aI _ _ _ _ hne).trans h2)⟩
theorem JO (r:Rd) {x y z:Rd} {a b c:Nat} (h1:bg 63 r=(x,a)) (h2:bg 1048576 x=(y,b)) (h3:bg 4294967296 y=(z,c)) :
 eY r=if z.e=0 then (if b=0∨c=0 then (⟨z.b,4⟩,Dn) else (z,⟨⟨a,b⟩,c⟩)) else (z,Dn):=by
 have f1:=(bf 63 r).2;have f2:=(bf 1048576 x).2;have f3:=(bf 4294967296 y).2;rw [h1] at f1;rw [h2] at f2;rw [h3] at f3;simp only at f1 f2 f3;rw [EZ r h1 h2 h3];by_cases hz:z.e=0
 ·rw [if_pos hz,if_pos hz]
  by_cases hbc:b=0∨c=0
  ·have:¬ bJ ⟨⟨a,b⟩,c⟩=true:=by simp [bJ,jk];omega
   rw [if_neg this,if_pos hbc];unfold fV;rw [if_pos hz]
  ·have:bJ ⟨⟨a,b⟩,c⟩=true:=by simp [bJ,jk];omega
   rw [if_pos this,if_neg hbc]
 ·rw [if_neg hz,if_neg hz]
theorem CP (w:World) (c c':Array Value) (t:TypeId) (o:Obj):((w.alloc (.cells c t)).alloc o).setRow w.heap.size c'=(w.alloc (.cells c' t)).alloc o:=by
 simp only [World.setRow,World.alloc];congr 1
 apply Array.ext_getElem?;intro i;rw [Array.getElem?_modify];by_cases h:w.heap.size=i
 ·subst h
  simp [Array.getElem?_push]
 ·rw [if_neg h,Array.getElem?_push,Array.getElem?_push (xs:=w.heap.push (.cells c' t))]
  simp only [Array.size_push];by_cases h2:i=w.heap.size+1
  ·rw [if_pos h2,if_pos h2]
  ·rw [if_neg h2,if_neg h2,Array.getElem?_push,Array.getElem?_push,if_neg (fun e=>h e.symm),if_neg (fun e=>h e.symm)]
theorem dI {P:Program} {ops:Array Oper} {rest:List Oper} {a:Act} {w:World} {Q:Exit→Act→World→Prop} {type:TypeId} {pos:String} {after:Array Edge} (ty:TypeId) (x y:Operand) (c c':Array Value) (o:Obj)
 (hx:a.eval x=.pointer (some ⟨w.heap.size,0,none⟩)) (hy:a.eval y=.agg c') (hi:(P.info? ty).map (·.size)=some c'.size) (hold:c.size=c'.size) (h1:c'.all (·.oneCell')=true)
 (h:wpList P ops Q rest a ((w.alloc (.cells c' ty)).alloc o)):wpList P ops Q (⟨none,.store ty x y,type,pos,after,none⟩ :: rest) a ((w.alloc (.cells c ty)).alloc o):=by
 refine wpList_store_row rfl ty x y rfl w.heap.size c' hx hy ty c ?_ hi hold h1 ?_
 ·rw [Below.heap_alloc _ _ _ (by simp)];exact heap_alloc_last w _
 ·rw [CP];exact h
/-- block S holds a whole struct -/
def StBlk (w:World) (S:Nat) (cs:Array Value) (t:TypeId):Prop:=w.heap[S]?=some (.cells cs t (0,0))
theorem StBlk.lt {w:World} {S:Nat} {cs:Array Value} {t:TypeId} (h:StBlk w S cs t):S<w.heap.size:=lt_of_block h
theorem StBlk.below {w w':World} {S:Nat} {cs:Array Value} {t:TypeId} (h:StBlk w S cs t) (hb:Below w.heap.size w w'):StBlk w' S cs t:=(hb.block _ h.lt).trans h
theorem StBlk.range {w:World} {S:Nat} {cs:Array Value} {t:TypeId} (h:StBlk w S cs t):w.rangeAt S 0 cs.toList:=fun j v hv=>by
 rw [Nat.zero_add];simp only [World.cell?,show w.heap[S]?=_ from h];simpa using hv
theorem z159 {p : Prop} (h : p := by
 have := heap_alloc_last (w.alloc o) (Obj.cells cs t)
 rw [show (w.alloc o).heap.size = w.heap.size + 1 by simp] at this
 exact this) : p := h
theorem StBlk.new2 (w:World) (o:Obj) (cs:Array Value) (t:TypeId):StBlk ((w.alloc o).alloc (.cells cs t)) (w.heap.size+1) cs t:=by
 exact z159
theorem RdBlk.new2 (w:World) (r:Rd) (a:Option Addr) (cap:Nat) (o:Obj):RdBlk ((w.alloc (.cells (dL r a cap) 66)).alloc o) w.heap.size r a cap:=by
 unfold RdBlk;rw [Below.heap_alloc _ _ _ (by simp)];exact heap_alloc_last w _
theorem z39 {p : Prop} (h : p := by
 refine gI 2 3 66 121 66 121 (w.heap.size + 1) (w.heap.size + 2) _ ik _ _ rfl rfl rfl hrows.1 hrows.2 underlying66 rfl (by kernel_rfl) underlying121 rfl (by kernel_rfl) rfl ?_
 rw [HE.out]
 exact ⟨a3, c3, rfl, oG, hc3, below_setRow (below_setRow hbt (by omega) _) (by omega) _⟩) : p := h
theorem z103 {p : Prop} (h : p := by
 rw [HE.out]
 exact ⟨a3, c3, rfl, oG, hc3, below_setRow (below_setRow hbt (by omega) _) (by omega) _⟩) : p := h
theorem z84 {p : Prop} (h : p := by
 rw [show ((w.alloc (Obj.cells (dL r a cap) 66)).alloc (Obj.cells bQ 66)).heap.size = w.heap.size + 2 by simp] at this
 exact this) : p := h
theorem z150 {p : Prop} (h : p := by rw [hW.out]; unfold RdBlk; rw [Below.heap_alloc _ _ _ (by simp <;> omega), Below.heap_alloc _ _ _ (by simp)]; exact heap_alloc_last w _) : p := h
theorem z139 {p : Prop} (h : p := by
 have hrows := gy #[.slice a3 z.b.length c3, .int .i64 4] ik (show w.heap.size + 1 ≠ w.heap.size + 2 by omega) hZ hD
 exact z39) : p := h
theorem y24 {p q : Prop} (k : q) (h : PLift q → p := by
 intro kk
 have hDz : ∀ cs : Array Value, (W.setRow (w.heap.size + 1) cs).heap[w.heap.size + 2]? = some (.cells ik 121 (0, 0)) := fun cs => (aI _ _ _ _ (by omega)).trans hD
 revert hDz
 exact kk.down) : p := h ⟨k⟩
theorem oJ (r:Rd) (a:Option Addr) (cap:Nat) (w0 w:World) (h0:Below w0.heap.size w0 w) (hl:r.b.length≤1073741824) (hc:r.b.length≤cap) (hby:BytesIn w0 a r.b) :
 Calls prog 62 #[bn r a cap] w (iI (eY r).1 (oQ (eY r).2) w0 w):=by
 obtain ⟨x,n1,h1⟩:∃ x a,bg 63 r=(x,a):=⟨_,_,rfl⟩;obtain ⟨y,n2,h2⟩:∃ y b,bg 1048576 x=(y,b):=⟨_,_,rfl⟩;obtain ⟨z,n3,h3⟩:∃ z c,bg 4294967296 y=(z,c):=⟨_,_,rfl⟩;have HV:=Lib.hid (JO r h1 h2 h3);have f1:=bf 63 r;have f2:=bf 1048576 x;have f3:=bf 4294967296 y;rw [h1] at f1;rw [h2] at f2;rw [h3] at f3;simp only at f1 f2 f3;have hyl:y.b.length≤1073741824:=by omega
 have g1:Hid (∀ W,Below w0.heap.size w0 W→Calls prog 24 #[bn r a cap,.int .u64 63] W (iI x (.int .u64 n1) w0 W)):=fun W h=>by have:=di r a cap 63 w0 W h hl hc (by omega) hby;rw [h1] at this;exact this
 have g2:Hid (∀ (a:Option Addr) (cap:Nat) W,Below w0.heap.size w0 W→x.b.length≤cap→BytesIn w0 a x.b→Calls prog 24 #[bn x a cap,.int .u64 1048576] W (iI y (.int .u64 n2) w0 W)):=fun a cap W h hc hb=>by have:=di x a cap 1048576 w0 W h (by omega) hc (by omega) hb;rw [h2] at this;exact this
 have g3:Hid (∀ (a:Option Addr) (cap:Nat) W,Below w0.heap.size w0 W→y.b.length≤cap→BytesIn w0 a y.b→Calls prog 24 #[bn y a cap,.int .u64 4294967296] W (iI z (.int .u64 n3) w0 W)):=fun a cap W h hc hb=>by have:=di y a cap 4294967296 w0 W h (by omega) hc (by omega) hb;rw [h3] at this;exact this
 go_enter func62,ntmps62;go_upto_region 1 with fail
 refine au (fun W hW=>?_);have hbt:Below w.heap.size w W:=by rw [hW.out];go_grown
 have hB:RdBlk W w.heap.size r a cap:=by
  exact z150
 have hZ:W.heap[w.heap.size+1]?=some (.cells bQ 66 (0,0)):=by
  rw [hW.out,Below.heap_alloc _ _ _ (by simp)]
  exact z9
 have hD:W.heap[w.heap.size+2]?=some (.cells ik 121 (0,0)):=by
  rw [hW.out];have:=heap_alloc_last ((w.alloc (Obj.cells (dL r a cap) 66)).alloc (Obj.cells bQ 66)) (Obj.cells ik 121)
  exact z84
 have h0W:=h0.trans (hbt.mono h0.size);have hrg:=hB.range;have hlw:=lt_of_block hD;clear hW hB;go_upto_region 2 with (first
  | ((with_reducible refine ah 66 _ w.heap.size 0 [.slice a r.b.length cap,.int .i64 r.e] (bn r a cap) rfl _ underlying66 rfl (by kernel_rfl) hrg ?_ rfl ?_);exact rfl)
  | (go_at_call 24;(with_reducible refine (g1.out _ h0W).mono ?_);rintro x w1 ⟨a1,c1,rfl,hin1,hc1,hb1⟩)
  | (refine aB 66 _ _ _ #[.slice a1 x.b.length c1,.int .i64 x.e] rfl rfl (by kernel_rfl) rfl (by kernel_rfl) ?_))
 refine au (fun V1 hV=>?_);have hX1:RdBlk V1 w1.heap.size x a1 c1:=by rw [hV.out];exact RdBlk.new w1 x a1 c1
 have hbv:Below W.heap.size W V1:=by rw [hV.out];exact hb1.alloc hb1.size _
 replace h0W:=h0W.trans (hbv.mono h0W.size);have hlo1:=Nat.lt_of_lt_of_le hlw hb1.size;replace hlw:=Nat.lt_of_lt_of_le hlw hbv.size;clear hV hb1 hrg;have hrg:=hX1.range;replace hZ:=(hbv.block _ (lt_of_block hZ)).trans hZ;replace hD:=(hbv.block _ (lt_of_block hD)).trans hD;replace hbt:=below2 hbt hbv;clear hbv;obtain ⟨W,hWe⟩:∃ W,W=V1:=⟨_,rfl⟩;subst hWe;have g2':=Lib.hid (fun W h=>g2.out a1 c1 W h hc1 hin1);go_upto_region 3 with (first
  | ((with_reducible refine ah 66 _ w1.heap.size 0 [.slice a1 x.b.length c1,.int .i64 x.e] (bn x a1 c1) rfl _ underlying66 rfl (by kernel_rfl) hrg ?_ rfl ?_);exact rfl)
  | (go_at_call 24;(with_reducible refine (g2'.out _ h0W).mono ?_);rintro x w2 ⟨a2,c2,rfl,hin2,hc2,hb2⟩)
  | (refine aB 66 _ _ _ #[.slice a2 y.b.length c2,.int .i64 y.e] rfl rfl (by kernel_rfl) rfl (by kernel_rfl) ?_))
 refine au (fun V2 hV=>?_);have hX2:RdBlk V2 w2.heap.size y a2 c2:=by rw [hV.out];exact RdBlk.new w2 y a2 c2
 have hbv:Below W.heap.size W V2:=by rw [hV.out];exact hb2.alloc hb2.size _
 replace h0W:=h0W.trans (hbv.mono h0W.size);have hlo2:=Nat.lt_of_lt_of_le hlw hb2.size;replace hlw:=Nat.lt_of_lt_of_le hlw hbv.size;clear hV hb2 hrg;have hrg:=hX2.range;replace hZ:=(hbv.block _ (lt_of_block hZ)).trans hZ;replace hD:=(hbv.block _ (lt_of_block hD)).trans hD;replace hbt:=below2 hbt hbv;clear hbv;obtain ⟨W,hWe⟩:∃ W,W=V2:=⟨_,rfl⟩;subst hWe;have g3':=Lib.hid (fun W h=>g3.out a2 c2 W h hc2 hin2);go_upto_region 4 with (first
  | ((with_reducible refine ah 66 _ w2.heap.size 0 [.slice a2 y.b.length c2,.int .i64 y.e] (bn y a2 c2) rfl _ underlying66 rfl (by kernel_rfl) hrg ?_ rfl ?_);exact rfl)
  | (go_at_call 24;(with_reducible refine (g3'.out _ h0W).mono ?_);rintro x w3 ⟨a3,c3,rfl,oG,hc3,hb3⟩)
  | (refine aB 66 _ _ _ #[.slice a3 z.b.length c3,.int .i64 z.e] rfl rfl (by kernel_rfl) rfl (by kernel_rfl) ?_))
 refine au (fun V3 hV=>?_);have hX3:RdBlk V3 w3.heap.size z a3 c3:=by rw [hV.out];exact RdBlk.new w3 z a3 c3
 have hbv:Below W.heap.size W V3:=by rw [hV.out];exact hb3.alloc hb3.size _
 replace h0W:=h0W.trans (hbv.mono h0W.size);have hlo3:=Nat.lt_of_lt_of_le hlw hb3.size;replace hlw:=Nat.lt_of_lt_of_le hlw hbv.size;clear hV hb3 hrg;have hrg:=hX3.range;replace hZ:=(hbv.block _ (lt_of_block hZ)).trans hZ;replace hD:=(hbv.block _ (lt_of_block hD)).trans hD;replace hbt:=below2 hbt hbv;clear hbv;obtain ⟨W,hWe⟩:∃ W,W=V3:=⟨_,rfl⟩;subst hWe;obtain ⟨p0,p1,zf0,zf1⟩:=hX3.two;clear g1 g2 g3 g2' g3' hX1 hX2;have hzl:z.b.length≤1073741824:=by omega
 obtain ⟨f1a,f1b⟩:=f1;obtain ⟨f2a,f2b⟩:=f2;obtain ⟨f3a,f3b⟩:=f3;clear h1 h2 h3;by_cases hz:z.e=0
 ·have HV2:=Lib.hid (HV.out.trans (if_pos hz))
  have q1:(z.e == 0)=true:=beq_iff_eq.2 hz;have q2:(z.e != 0)=false:=by rw [bne_eq_false_iff_eq];exact hz
  have HZ0:=Lib.hid hz;clear hz HV;by_cases hb0:n2=0
  ·have HE:=Lib.hid (HV2.out.trans (if_pos (Or.inl hb0)))
   have d1:((n2:Int) == 0)=true:=beq_iff_eq.2 (by omega);clear HV2 hb0
   refine y24 ?_
   intro hDz
   go_wp2_with (first
        | ((with_reducible refine ah 66 _ w3.heap.size 0 [.slice a3 z.b.length c3,.int .i64 z.e] (bn z a3 c3) rfl _ underlying66 rfl (by kernel_rfl) hrg ?_ rfl ?_);exact rfl)
        | (refine wpList_store_row rfl 66 _ _ rfl (w.heap.size+1) #[.slice a3 z.b.length c3,.int .i64 4] rfl rfl 66 bQ hZ (by kernel_rfl) rfl (by kernel_rfl) ?_)
        | (refine wpList_store_row rfl 121 _ _ rfl (w.heap.size+2) ik rfl rfl 121 ik (hDz _) (by kernel_rfl) rfl (by kernel_rfl) ?_))
   exact z139
  ·have d1:((n2:Int) == 0)=false:=beq_eq_false_iff_ne.2 (by omega)
   by_cases hc0:n3=0
   ·have HE:=Lib.hid (HV2.out.trans (if_pos (Or.inr hc0)))
    have d2:((n3:Int) == 0)=true:=beq_iff_eq.2 (by omega);clear HV2 hc0 hb0
    refine y24 ?_
    intro hDz
    go_wp2_with (first
     | ((with_reducible refine ah 66 _ w3.heap.size 0 [.slice a3 z.b.length c3,.int .i64 z.e] (bn z a3 c3) rfl _ underlying66 rfl (by kernel_rfl) hrg ?_ rfl ?_);exact rfl)
     | (refine wpList_store_row rfl 66 _ _ rfl (w.heap.size+1) #[.slice a3 z.b.length c3,.int .i64 4] rfl rfl 66 bQ hZ (by kernel_rfl) rfl (by kernel_rfl) ?_)
     | (refine wpList_store_row rfl 121 _ _ rfl (w.heap.size+2) ik rfl rfl 121 ik (hDz _) (by kernel_rfl) rfl (by kernel_rfl) ?_))
    exact z139
   ·have d2:((n3:Int) == 0)=false:=beq_eq_false_iff_ne.2 (by omega)
    have HE:=Lib.hid (HV2.out.trans (if_neg (fun h=>h.elim hb0 hc0)));clear HV2 hc0 hb0
    refine y24 ?_
    intro hDz
    go_wp2_with (first
     | ((with_reducible refine ah 66 _ w3.heap.size 0 [.slice a3 z.b.length c3,.int .i64 z.e] (bn z a3 c3) rfl _ underlying66 rfl (by kernel_rfl) hrg ?_ rfl ?_);exact rfl)
     | (refine wpList_store_row rfl 66 _ _ rfl (w.heap.size+1) #[.slice a3 z.b.length c3,.int .i64 z.e] rfl rfl 66 bQ hZ (by kernel_rfl) rfl (by kernel_rfl) ?_)
     | (refine wpList_store_row rfl 121 _ _ rfl (w.heap.size+2) #[.int .i64 n1,.int .i64 n2,.int .i64 n3] rfl rfl 121 ik (hDz _) (by kernel_rfl) rfl (by kernel_rfl) ?_))
    have hrows:=gy #[.slice a3 z.b.length c3,.int .i64 z.e] #[.int .i64 n1,.int .i64 n2,.int .i64 n3] (show w.heap.size+1≠w.heap.size+2 by omega) hZ hD;refine gI 2 3 66 121 66 121 (w.heap.size+1) (w.heap.size+2) _ #[.int .i64 n1,.int .i64 n2,.int .i64 n3] _ _ rfl rfl rfl hrows.1 hrows.2 underlying66 rfl (by kernel_rfl) underlying121 rfl (by kernel_rfl) rfl ?_
    exact z103
 ·have HE:=Lib.hid (HV.out.trans (if_neg hz))
  have q1:(z.e == 0)=false:=beq_eq_false_iff_ne.2 hz;have q2:(z.e != 0)=true:=by rw [bne_iff_ne];exact hz
  clear hz HV
  refine y24 ?_
  intro hDz
  go_wp2_with (first
   | ((with_reducible refine ah 66 _ w3.heap.size 0 [.slice a3 z.b.length c3,.int .i64 z.e] (bn z a3 c3) rfl _ underlying66 rfl (by kernel_rfl) hrg ?_ rfl ?_);exact rfl)
   | (refine wpList_store_row rfl 66 _ _ rfl (w.heap.size+1) #[.slice a3 z.b.length c3,.int .i64 z.e] rfl rfl 66 bQ hZ (by kernel_rfl) rfl (by kernel_rfl) ?_)
   | (refine wpList_store_row rfl 121 _ _ rfl (w.heap.size+2) ik rfl rfl 121 ik (hDz _) (by kernel_rfl) rfl (by kernel_rfl) ?_))
  have hrows:=gy #[.slice a3 z.b.length c3,.int .i64 z.e] ik (show w.heap.size+1≠w.heap.size+2 by omega) hZ hD
  exact z39
theorem uh (r:Rd) (a:Option Addr) (cap:Nat) (w0 w:World) (h0:Below w0.heap.size w0 w) (hl:r.b.length≤1073741824) (hc:r.b.length≤cap) (hby:BytesIn w0 a r.b) :
 Calls prog 25 #[bn r a cap] w (iI (dZ r).1 (iO (dZ r).2) w0 w):=by
 obtain ⟨x,n1,h1⟩:∃ x a,bg 4398046511104 r=(x,a):=⟨_,_,rfl⟩;obtain ⟨y,n2,h2⟩:∃ y b,bg 65535 x=(y,b):=⟨_,_,rfl⟩;obtain ⟨z,n3,h3⟩:∃ z c,bg 63 y=(z,c):=⟨_,_,rfl⟩;have HV:=Lib.hid (sH r h1 h2 h3);have f1:=bf 4398046511104 r;have f2:=bf 65535 x;have f3:=bf 63 y;rw [h1] at f1;rw [h2] at f2;rw [h3] at f3;simp only at f1 f2 f3;have hyl:y.b.length≤1073741824:=by omega
 have g1:Hid (∀ W,Below w0.heap.size w0 W→Calls prog 24 #[bn r a cap,.int .u64 4398046511104] W (iI x (.int .u64 n1) w0 W)):=fun W h=>by have:=di r a cap 4398046511104 w0 W h hl hc (by omega) hby;rw [h1] at this;exact this
 have g2:Hid (∀ (a:Option Addr) (cap:Nat) W,Below w0.heap.size w0 W→x.b.length≤cap→BytesIn w0 a x.b→Calls prog 24 #[bn x a cap,.int .u64 65535] W (iI y (.int .u64 n2) w0 W)):=fun a cap W h hc hb=>by have:=di x a cap 65535 w0 W h (by omega) hc (by omega) hb;rw [h2] at this;exact this
 have g3:Hid (∀ (a:Option Addr) (cap:Nat) W,Below w0.heap.size w0 W→y.b.length≤cap→BytesIn w0 a y.b→Calls prog 24 #[bn y a cap,.int .u64 63] W (iI z (.int .u64 n3) w0 W)):=fun a cap W h hc hb=>by have:=di y a cap 63 w0 W h (by omega) hc (by omega) hb;rw [h3] at this;exact this
 go_enter func25,ntmps25;go_upto_region 1 with fail
 refine au (fun W hW=>?_);have hbt:Below w.heap.size w W:=by rw [hW.out];go_grown
 have hB:RdBlk W w.heap.size r a cap:=by
  exact z150
 have hZ:W.heap[w.heap.size+1]?=some (.cells bQ 66 (0,0)):=by
  rw [hW.out,Below.heap_alloc _ _ _ (by simp)]
  exact z9
 have hD:W.heap[w.heap.size+2]?=some (.cells ik 25 (0,0)):=by
  rw [hW.out];have:=heap_alloc_last ((w.alloc (Obj.cells (dL r a cap) 66)).alloc (Obj.cells bQ 66)) (Obj.cells ik 25)
  exact z84
 have h0W:=h0.trans (hbt.mono h0.size);have hrg:=hB.range;have hlw:=lt_of_block hD;clear hW hB;go_upto_region 2 with (first
  | ((with_reducible refine ah 66 _ w.heap.size 0 [.slice a r.b.length cap,.int .i64 r.e] (bn r a cap) rfl _ underlying66 rfl (by kernel_rfl) hrg ?_ rfl ?_);exact rfl)
  | (go_at_call 24;(with_reducible refine (g1.out _ h0W).mono ?_);rintro x w1 ⟨a1,c1,rfl,hin1,hc1,hb1⟩)
  | (refine aB 66 _ _ _ #[.slice a1 x.b.length c1,.int .i64 x.e] rfl rfl (by kernel_rfl) rfl (by kernel_rfl) ?_))
 refine au (fun V1 hV=>?_);have hX1:RdBlk V1 w1.heap.size x a1 c1:=by rw [hV.out];exact RdBlk.new w1 x a1 c1
 have hbv:Below W.heap.size W V1:=by rw [hV.out];exact hb1.alloc hb1.size _
 replace h0W:=h0W.trans (hbv.mono h0W.size);have hlo1:=Nat.lt_of_lt_of_le hlw hb1.size;replace hlw:=Nat.lt_of_lt_of_le hlw hbv.size;clear hV hb1 hrg;have hrg:=hX1.range;replace hZ:=(hbv.block _ (lt_of_block hZ)).trans hZ;replace hD:=(hbv.block _ (lt_of_block hD)).trans hD;replace hbt:=below2 hbt hbv;clear hbv;obtain ⟨W,hWe⟩:∃ W,W=V1:=⟨_,rfl⟩;subst hWe;have g2':=Lib.hid (fun W h=>g2.out a1 c1 W h hc1 hin1);go_upto_region 3 with (first
  | ((with_reducible refine ah 66 _ w1.heap.size 0 [.slice a1 x.b.length c1,.int .i64 x.e] (bn x a1 c1) rfl _ underlying66 rfl (by kernel_rfl) hrg ?_ rfl ?_);exact rfl)
  | (go_at_call 24;(with_reducible refine (g2'.out _ h0W).mono ?_);rintro x w2 ⟨a2,c2,rfl,hin2,hc2,hb2⟩)
  | (refine aB 66 _ _ _ #[.slice a2 y.b.length c2,.int .i64 y.e] rfl rfl (by kernel_rfl) rfl (by kernel_rfl) ?_))
 refine au (fun V2 hV=>?_);have hX2:RdBlk V2 w2.heap.size y a2 c2:=by rw [hV.out];exact RdBlk.new w2 y a2 c2
 have hbv:Below W.heap.size W V2:=by rw [hV.out];exact hb2.alloc hb2.size _
 replace h0W:=h0W.trans (hbv.mono h0W.size);have hlo2:=Nat.lt_of_lt_of_le hlw hb2.size;replace hlw:=Nat.lt_of_lt_of_le hlw hbv.size;clear hV hb2 hrg;have hrg:=hX2.range;replace hZ:=(hbv.block _ (lt_of_block hZ)).trans hZ;replace hD:=(hbv.block _ (lt_of_block hD)).trans hD;replace hbt:=below2 hbt hbv;clear hbv;obtain ⟨W,hWe⟩:∃ W,W=V2:=⟨_,rfl⟩;subst hWe;have g3':=Lib.hid (fun W h=>g3.out a2 c2 W h hc2 hin2);go_upto_region 4 with (first
  | ((with_reducible refine ah 66 _ w2.heap.size 0 [.slice a2 y.b.length c2,.int .i64 y.e] (bn y a2 c2) rfl _ underlying66 rfl (by kernel_rfl) hrg ?_ rfl ?_);exact rfl)
  | (go_at_call 24;(with_reducible refine (g3'.out _ h0W).mono ?_);rintro x w3 ⟨a3,c3,rfl,oG,hc3,hb3⟩)
  | (refine aB 66 _ _ _ #[.slice a3 z.b.length c3,.int .i64 z.e] rfl rfl (by kernel_rfl) rfl (by kernel_rfl) ?_))
 refine au (fun V3 hV=>?_);have hX3:RdBlk V3 w3.heap.size z a3 c3:=by rw [hV.out];exact RdBlk.new w3 z a3 c3
 have hbv:Below W.heap.size W V3:=by rw [hV.out];exact hb3.alloc hb3.size _
 replace h0W:=h0W.trans (hbv.mono h0W.size);have hlo3:=Nat.lt_of_lt_of_le hlw hb3.size;replace hlw:=Nat.lt_of_lt_of_le hlw hbv.size;clear hV hb3 hrg;have hrg:=hX3.range;replace hZ:=(hbv.block _ (lt_of_block hZ)).trans hZ;replace hD:=(hbv.block _ (lt_of_block hD)).trans hD;replace hbt:=below2 hbt hbv;clear hbv;obtain ⟨W,hWe⟩:∃ W,W=V3:=⟨_,rfl⟩;subst hWe;obtain ⟨p0,p1,zf0,zf1⟩:=hX3.two;clear g1 g2 g3 g2' g3' hX1 hX2;have hzl:z.b.length≤1073741824:=by omega
 obtain ⟨f1a,f1b⟩:=f1;obtain ⟨f2a,f2b⟩:=f2;obtain ⟨f3a,f3b⟩:=f3;clear h1 h2 h3;by_cases hz:z.e=0
 ·have HE:=Lib.hid (HV.out.trans (if_pos hz))
  have q1:(z.e == 0)=true:=beq_iff_eq.2 hz;have q2:(z.e != 0)=false:=by rw [bne_eq_false_iff_eq];exact hz
  have HZ0:=Lib.hid hz;clear hz HV;have hDz:∀ cs:Array Value,(W.setRow (w.heap.size+1) cs).heap[w.heap.size+2]?=some (.cells ik 25 (0,0)):=fun cs=>(aI _ _ _ _ (by omega)).trans hD;go_wp2_with (first
   | ((with_reducible refine ah 66 _ w3.heap.size 0 [.slice a3 z.b.length c3,.int .i64 z.e] (bn z a3 c3) rfl _ underlying66 rfl (by kernel_rfl) hrg ?_ rfl ?_);exact rfl)
   | (refine wpList_store_row rfl 66 _ _ rfl (w.heap.size+1) #[.slice a3 z.b.length c3,.int .i64 z.e] rfl rfl 66 bQ hZ (by kernel_rfl) rfl (by kernel_rfl) ?_)
   | (refine wpList_store_row rfl 25 _ _ rfl (w.heap.size+2) #[.int .i64 n1,.int .i64 n2,.int .i64 n3] rfl rfl 25 ik (hDz _) (by kernel_rfl) rfl (by kernel_rfl) ?_))
  have hrows:=gy #[.slice a3 z.b.length c3,.int .i64 z.e] #[.int .i64 n1,.int .i64 n2,.int .i64 n3] (show w.heap.size+1≠w.heap.size+2 by omega) hZ hD;refine gI 2 3 66 25 66 25 (w.heap.size+1) (w.heap.size+2) _ #[.int .i64 n1,.int .i64 n2,.int .i64 n3] _ _ rfl rfl rfl hrows.1 hrows.2 underlying66 rfl (by kernel_rfl) underlying25 rfl (by kernel_rfl) rfl ?_
  exact z103
 ·have HE:=Lib.hid (HV.out.trans (if_neg hz))
  have q1:(z.e == 0)=false:=beq_eq_false_iff_ne.2 hz;have q2:(z.e != 0)=true:=by rw [bne_iff_ne];exact hz
  clear hz HV;have hDz:∀ cs:Array Value,(W.setRow (w.heap.size+1) cs).heap[w.heap.size+2]?=some (.cells ik 25 (0,0)):=fun cs=>(aI _ _ _ _ (by omega)).trans hD;go_wp2_with (first
   | ((with_reducible refine ah 66 _ w3.heap.size 0 [.slice a3 z.b.length c3,.int .i64 z.e] (bn z a3 c3) rfl _ underlying66 rfl (by kernel_rfl) hrg ?_ rfl ?_);exact rfl)
   | (refine wpList_store_row rfl 66 _ _ rfl (w.heap.size+1) #[.slice a3 z.b.length c3,.int .i64 z.e] rfl rfl 66 bQ hZ (by kernel_rfl) rfl (by kernel_rfl) ?_)
   | (refine wpList_store_row rfl 25 _ _ rfl (w.heap.size+2) ik rfl rfl 25 ik (hDz _) (by kernel_rfl) rfl (by kernel_rfl) ?_))
  have hrows:=gy #[.slice a3 z.b.length c3,.int .i64 z.e] ik (show w.heap.size+1≠w.heap.size+2 by omega) hZ hD;refine gI 2 3 66 25 66 25 (w.heap.size+1) (w.heap.size+2) _ ik _ _ rfl rfl rfl hrows.1 hrows.2 underlying66 rfl (by kernel_rfl) underlying25 rfl (by kernel_rfl) rfl ?_
  exact z103
end Go.Proofs.YtepkclldbkhanaaGreat
