/- Actors, dots and keys as keys of maps. Conditions: none. -/
import Derived.Test.YtepkclldbkhanaaGreatTab
import Derived.Test.YtepkclldbkhanaaGreatDot
import Derived.Test.YtepkclldbkhanaaGreatEvent
import Derived.Test.YtepkclldbkhanaaGreatEq
import Derived.OrdersHeld
import Derived.Deep.RegionLaw
import Derived.Deep.RegionHeld3
import Derived.BigQuiet
import Derived.Maps.AppendAt
import Derived.Deep.AppendLies
import Derived.Great.BuildSlice
import Derived.Great.FillDense
import Derived.Test.YtepkclldbkhanaaGreatKit
set_option linter.unusedSimpArgs false
set_option linter.unusedVariables false
set_option linter.unnecessarySimpa false
set_option maxHeartbeats 16000000
set_option maxRecDepth 100000
open Go.Proofs.Tryz
namespace Go.Proofs.YtepkclldbkhanaaGreat
open Go.RowKit
theorem AZ:laidOutB prog=true:=by kernel_rfl
theorem PS:Maps.Keyed prog 119:=.of_law (deep_law_laid AZ (m:=3) (by omega) (of_decide_eq_true (by kernel_rfl)) (by kernel_rfl) (by kernel_rfl))
theorem TN:Maps.Keyed prog 121:=.of_law (deep_law_laid AZ (m:=3) (by omega) (of_decide_eq_true (by kernel_rfl)) (by kernel_rfl) (by kernel_rfl))
theorem TM:Maps.Keyed prog 123:=.of_law (deep_law_laid AZ (m:=3) (by omega) (of_decide_eq_true (by kernel_rfl)) (by kernel_rfl) (by kernel_rfl))
abbrev fO (a:Actor):Value:=.agg #[.int .i64 a.dev,.int .i64 a.inc]
abbrev bZ (d:Dot):Value:=.agg #[.int .i64 d.a.dev,.int .i64 d.a.inc,.int .i64 d.seq]
abbrev iw (k:Key):Value:=.agg #[.string k.name,.string k.domain,.string k.path]
abbrev wf64 (n:Int):Prop:=(Lit.int .i64 n).wf=true
structure ActW (a:Actor):Prop where
 dev:wf64 a.dev
 inc:wf64 a.inc
structure DotW (d:Dot):Prop where
 a:ActW d.a
 seq:wf64 d.seq
structure KeyW (k:Key):Prop where
 name:k.name.size≤maxLen
 domain:k.domain.size≤maxLen
 path:k.path.size≤maxLen
theorem uQ:prog.cellsOf 119=2:=by kernel_rfl
theorem IQ:prog.cellsOf 121=3:=by kernel_rfl
theorem IM:prog.cellsOf 123=3:=by kernel_rfl
theorem IP:prog.cellsOf 3=1:=by kernel_rfl
theorem IL:prog.cellsOf 9=1:=by kernel_rfl
theorem Rj:prog.keyType 119=true:=by kernel_rfl
theorem UW:prog.keyType 121=true:=by kernel_rfl
theorem UV:prog.keyType 123=true:=by kernel_rfl
theorem xx:∃ m,prog.types.size=m+3:=⟨prog.types.size - 3,by have:3≤prog.types.size:=of_decide_eq_true (by kernel_rfl);omega⟩
theorem AU (m:Nat) {n:Int} (h:wf64 n):prog.keyLits (m+1) 3 [.int .i64 n]=some [.int .i64 n]:=by
 unfold Program.keyLits;simp only [underlying3];rw [if_pos (by simpa using h)]
theorem rC (m:Nat) {s:ByteArray} (h:s.size≤maxLen):prog.keyLits (m+1) 9 [.string s]=some [.string s.data.toList]:=by
 unfold Program.keyLits;simp only [underlying9];rw [if_pos h]
theorem AV (m:Nat) {a:Actor} (h:ActW a):prog.keyLits (m+2) 119 [.int .i64 a.dev,.int .i64 a.inc]=some [.int .i64 a.dev,.int .i64 a.inc]:=by
 unfold Program.keyLits;simp only [underlying119,uQ];rw [if_pos ⟨rfl,by simp⟩];simp only [List.mapM_cons,List.mapM_nil,List.drop_zero,List.drop_succ_cons,IP,List.take_succ_cons,List.take_zero,AU m h.dev,AU m h.inc];rfl
theorem PR (m:Nat) {d:Dot} (h:DotW d):prog.keyLits (m+3) 121 [.int .i64 d.a.dev,.int .i64 d.a.inc,.int .i64 d.seq]=some [.int .i64 d.a.dev,.int .i64 d.a.inc,.int .i64 d.seq]:=by
 unfold Program.keyLits;simp only [underlying121,IQ];rw [if_pos ⟨rfl,by simp⟩];simp only [List.mapM_cons,List.mapM_nil,List.drop_zero,List.drop_succ_cons,IP,uQ,List.take_succ_cons,List.take_zero,AU (m+1) h.seq,AV m h.a];rfl
theorem PQ (m:Nat) {k:Key} (h:KeyW k):∃ l,prog.keyLits (m+3) 123 [.string k.name,.string k.domain,.string k.path]=some l:=by
 unfold Program.keyLits;simp only [underlying123,IM];rw [if_pos ⟨rfl,by simp⟩];simp only [List.mapM_cons,List.mapM_nil,List.drop_zero,List.drop_succ_cons,IL,List.take_succ_cons,List.take_zero,rC (m+1) h.name,rC (m+1) h.domain,rC (m+1) h.path];exact ⟨_,rfl⟩
theorem Oa (a:Actor) (h:ActW a):∃ l,keyOf prog 119 (fO a)=some l:=by
 obtain ⟨m,hm⟩:=xx;unfold keyOf;rw [underlying119,hm];have hf:Value.formed prog 119 (fO a)=true:=by simp only [fO,Value.formed,underlying119,uQ];rfl
 simp only [Rj,hf,Bool.and_self,if_true,fO,Value.cells,AV (m+2) h];exact ⟨_,rfl⟩
theorem Rn (d:Dot) (h:DotW d):∃ l,keyOf prog 121 (bZ d)=some l:=by
 obtain ⟨m,hm⟩:=xx;unfold keyOf;rw [underlying121,hm];have hf:Value.formed prog 121 (bZ d)=true:=by simp only [bZ,Value.formed,underlying121,IQ];rfl
 simp only [UW,hf,Bool.and_self,if_true,bZ,Value.cells,PR (m+1) h];exact ⟨_,rfl⟩
theorem Rl (k:Key) (h:KeyW k):∃ l,keyOf prog 123 (iw k)=some l:=by
 obtain ⟨m,hm⟩:=xx;obtain ⟨l,hl⟩:=PQ (m+1) h;unfold keyOf;rw [underlying123,hm];have hf:Value.formed prog 123 (iw k)=true:=by simp only [iw,Value.formed,underlying123,IM];rfl
 simp only [UV,hf,Bool.and_self,if_true,iw,Value.cells,hl];exact ⟨_,rfl⟩
theorem uF:Kind prog 119 fO ActW:=⟨PS,fun x y h=>by
 obtain ⟨a,b⟩:=x;obtain ⟨c,d⟩:=y;simpa [fO] using h,Oa⟩
theorem jm:Kind prog 121 bZ DotW:=⟨TN,fun x y h=>by
 obtain ⟨⟨a,b⟩,c⟩:=x;obtain ⟨⟨a2,b2⟩,c2⟩:=y;simpa [bZ,and_assoc] using h,Rn⟩
theorem Ba:Kind prog 123 iw KeyW:=⟨TM,fun x y h=>by
 obtain ⟨a,b,c⟩:=x;obtain ⟨a2,b2,c2⟩:=y;simpa [iw] using h,Rl⟩
theorem EE {n:Int} (h1 : -9223372036854775808≤n) (h2:n≤9223372036854775807):wf64 n:=by
 have e1:IntKind.i64.min = -9223372036854775808:=by decide
 have e2:IntKind.i64.max=9223372036854775807:=by decide
 simp only [wf64,Lit.wf,e1,e2,Bool.and_eq_true,decide_eq_true_eq];exact ⟨h1,h2⟩
theorem OX {a:Actor} (h:jk a=true):ActW a:=by
 simp only [jk,Bool.and_eq_true,decide_eq_true_eq] at h;exact ⟨EE (by omega) (by omega),EE (by omega) (by omega)⟩
theorem lJ {d:Dot} (h:bJ d=true):DotW d:=by
 simp only [bJ,Bool.and_eq_true,decide_eq_true_eq] at h;exact ⟨OX h.1,EE (by omega) (by omega)⟩
/-- where a slice begins that is cut at element i, each of so many cells -/
def nZ (a:Option Addr) (cap i size:Nat):Option Addr:=if cap=i then a else a.map (fun x=>x.add (i * size))
theorem BytesIn.cut {w:World} {a:Option Addr} {l:Bytes} (h:BytesIn w a l) {cap:Nat} (hc:l.length≤cap) (i:Nat):BytesIn w (nZ a cap i 1) (l.drop i):=by
 unfold nZ;split
 ·rename_i h0;exact Or.inl (List.drop_eq_nil_of_le (by omega))
 ·rcases h with h | ⟨A,off,rfl,hb⟩
  ·exact Or.inl (by rw [h];simp)
  ·refine Or.inr ⟨A,off+i,by simp [Addr.add_mid],fun j hj=>?_⟩
   have h1:i+j<l.length:=by simp at hj;omega
   have:=hb (i+j) h1;rw [← Nat.add_assoc] at this;rw [this,List.getElem_drop]
theorem BytesIn.take {w:World} {a:Option Addr} {l:Bytes} (h:BytesIn w a l) (n:Nat):BytesIn w a (l.take n):=by
 rcases h with h | ⟨A,off,ha,hb⟩
 ·exact Or.inl (by rw [h];simp)
 ·refine Or.inr ⟨A,off,ha,fun j hj=>?_⟩
  have h1:j<l.length:=by simp at hj;omega
  rw [hb j h1];simp
section
variable {P:Program}
theorem qx (w:World) (t e:TypeId) (i0:TypeInfo) (a:Option Addr) (n cap:Nat) (k:IntKind) (i size:Nat) (ht:P.underlying t=some (.slice e)) (hi:P.info? e=some i0) (hs:i0.size=size) (h1:i≤n) :
 (Instr.sliceAt t (.slice a n cap) (some (.int k i)) none none).run P w=.ok (.slice (nZ a cap i size) (n - i) (cap - i)) w:=by
 subst hs;simp [Instr.sliceAt,Instr.slice,Instr.sliceBounds,Instr.sliceBound,asIntOf,run_underlying ht,sizeOf,typeInfo,hi,nZ];intro h3;omega
theorem uw (w:World) (t e:TypeId) (i0:TypeInfo) (a:Option Addr) (n cap:Nat) (k:IntKind) (j:Nat) (ht:P.underlying t=some (.slice e)) (hi:P.info? e=some i0) (h1:j≤cap) :
 (Instr.sliceAt t (.slice a n cap) none (some (.int k j)) none).run P w=.ok (.slice a j cap) w:=by
 have h3:(if cap=0 then a else a.map (fun x=>x.add 0))=a:=by
  split
  ·rfl
  ·cases a with
   | none=>rfl
   | some x=>obtain ⟨b,o,p⟩:=x;cases p <;> simp [Addr.add]
 simp [Instr.sliceAt,Instr.slice,Instr.sliceBounds,Instr.sliceBound,asIntOf,run_underlying ht,sizeOf,typeInfo,hi];rw [if_pos h1,show (if cap=0 then a else a.map (fun x=>x.add 0))=a from h3]
theorem EO (w:World) (t e:TypeId) (i0:TypeInfo) (a:Option Addr) (n cap:Nat) (k k2:IntKind) (i j size:Nat) (ht:P.underlying t=some (.slice e)) (hi:P.info? e=some i0) (hs:i0.size=size) (h1:i≤j) (h2:j≤cap) :
 (Instr.sliceAt t (.slice a n cap) (some (.int k i)) (some (.int k2 j)) none).run P w=.ok (.slice (nZ a cap i size) (j - i) (cap - i)) w:=by
 subst hs;simp [Instr.sliceAt,Instr.slice,Instr.sliceBounds,Instr.sliceBound,asIntOf,run_underlying ht,sizeOf,typeInfo,hi,nZ];rw [if_pos h2,if_pos h1]
/-- an operation that is run to a value in whatever world -/
theorem gU {o:Oper} {a:Act} {w:World} (t:TypeId) (x:Operand) (lo hi mx:Option Operand) (ho:o.op=.slice t x lo hi mx) (v:Value)
 (h:(Instr.sliceAt t (a.eval x) (lo.map a.eval) (hi.map a.eval) (mx.map a.eval)).run P w=.ok v w):(execOp a.eval o).run P w=.ok (.value v) w:=by
 unfold execOp;simp only [ho];simp [Sem.run_bind,h,Result.andThen]
theorem Oy {o:Oper} {a:Act} {w:World} (t t2:TypeId) (x:Operand) (ho:o.op=.convert t t2 x) (v:Value) (h:(convert t t2 (a.eval x)).run P w=.ok v w):(execOp a.eval o).run P w=.ok (.value v) w:=by
 unfold execOp;simp only [ho];simp [Sem.run_bind,h,Result.andThen]
theorem nz {ops:Array Oper} {rest:List Oper} {o:Oper} {a:Act} {w:World} {Q:Exit→Act→World→Prop} (hgd:o.guard=none) (v:Value) (h:(execOp a.eval o).run P w=.ok (.value v) w)
 (k:wpList P ops Q rest (a.put o.dst v) w):wpList P ops Q (o :: rest) a w :=
 wpList_plain hgd fun _ hK=>by unfold Oper.wp;rw [h];exact hK _ _ k
theorem iy {ops:Array Oper} {rest:List Oper} {o:Oper} {a:Act} {C:World→Prop} {Q:Act→Prop} (hw:Region.wanted o (yielded ops a.tmps)=true) (v:Value) (h:∀ w,C w→(execOp a.eval o).run P w=.ok (.value v) w)
 (k:wpQuiet P ops C Q rest (a.put o.dst v)):wpQuiet P ops C Q (o :: rest) a :=
 BigFrame.wpQuiet_want hw fun _ hK=>⟨v,fun w hw'=>by unfold Oper.quietAt;rw [h w hw'];exact ⟨rfl,rfl⟩,hK _ k⟩
theorem dY {ops:Array Oper} {o:Oper} {a:Act} {w:World} {K:Act→World→Prop} {Q:Exit→Act→World→Prop} {E:Prop} (hw:Region.wanted o (yielded ops a.tmps)=true) (ty:TypeId) (x y:Operand) (ho:o.op=.store ty x y)
 (g:Nat) (cells:Array Value) (hx:a.eval x=.pointer (some ⟨g,0,none⟩)) (hy:a.eval y=.agg cells)
 (t:TypeId) (old:Array Value) (hg:w.heap[g]?=some (.cells old t (0,0))) (hi:(P.info? ty).map (·.size)=some cells.size)
 (hold:old.size=cells.size) (h1:cells.all (·.oneCell')=true) (h:K (a.put o.dst undef) (w.setRow g cells)) :
 if Region.wanted o (yielded ops a.tmps)=true then Oper.wp P o a w K Q else E:=by
 rw [if_pos hw];exact wp_store_row ty x y ho g cells hx hy t old hg hi hold h1 h
end
/-! ### cells -/
/-- a slice's cells, all of them -/
def CellsIn (w:World) (a:Option Addr) (cs:List Value):Prop:=cs=[]∨∃ A off,a=some ⟨A,off,none⟩∧w.rangeAt A off cs
theorem JD {w w':World} {b o:Nat} {cs:List Value} (h:w.rangeAt b o cs) (hb:Below w.heap.size w w'):w'.rangeAt b o cs:=fun j v hv=>kept hb (h j v hv)
theorem CellsIn.kept {w w':World} {a:Option Addr} {cs:List Value} (h:CellsIn w a cs) (hb:Below w.heap.size w w'):CellsIn w' a cs :=
 h.imp id fun ⟨A,off,h1,h2⟩=>⟨A,off,h1,JD h2 hb⟩
theorem CellsIn.nil {w:World} {a:Option Addr}:CellsIn w a []:=Or.inl rfl
theorem CellsIn.take {w:World} {a:Option Addr} {cs:List Value} (h:CellsIn w a cs) (n:Nat):CellsIn w a (cs.take n):=by
 rcases h with rfl | ⟨A,off,h1,h2⟩
 ·exact Or.inl (by simp)
 ·refine Or.inr ⟨A,off,h1,fun j v hv=>h2 j v ?_⟩
  rw [List.getElem?_take] at hv;split at hv
  ·exact hv
  ·cases hv
theorem CellsIn.cut {w:World} {a:Option Addr} {cs:List Value} {n cap size:Nat} (h:CellsIn w a cs) (hl:cs.length=n * size) (hc:n≤cap) (i:Nat):CellsIn w (nZ a cap i size) (cs.drop (i * size)):=by
 unfold nZ;split
 ·rename_i h0
  refine Or.inl (List.drop_eq_nil_of_le ?_);rw [hl];exact Nat.mul_le_mul_right _ (by omega)
 ·rcases h with h | ⟨A,off,rfl,hb⟩
  ·exact Or.inl (by rw [h];simp)
  ·refine Or.inr ⟨A,off+i * size,by simp [Addr.add_mid],fun j v hv=>?_⟩
   rw [List.getElem?_drop] at hv;have:=hb (i * size+j) v hv;rwa [← Nat.add_assoc] at this
theorem iV {w:World} {base size n:Nat} {t:TypeId} {v:Value} {cs:List Value} (h:w.ownsRow base t size v n cs):∃ a cap,v=.slice a n cap∧CellsIn w a cs∧n≤cap:=by
 have hlen:=h.1;rcases h.2 with ⟨rfl,hn⟩ | ⟨g,cap,cur,hv,_,_,hc,_⟩
 ·subst hn
  have:cs=[]:=List.length_eq_zero_iff.1 (by rw [hlen];simp);subst this;exact ⟨none,0,rfl,Or.inl rfl,Nat.le_refl _⟩
 ·refine ⟨some ⟨g,0,none⟩,cap,hv,Or.inr ⟨g,0,rfl,fun j u hu=>?_⟩,hc⟩
  have:=World.ownsRow.cells (g:=g) h (by rw [hv];rfl) j u hu;rw [Addr.add_mid,Nat.zero_add] at this;rwa [Nat.zero_add]
section
variable {P:Program}
/-- an append to a slice of one's own, whatever the source is -/
theorem xe (w:World) (base:Nat) (t ty e:TypeId) (i0:TypeInfo) (z:Value) (size bytes:Nat) (ht:P.underlying t=some (.slice e)) (hi:P.info? e=some i0) (hz:i0.zero=some z)
 (hsize:i0.size=size) (hby:i0.bytes=bytes) (hzs:z.cells.size=size) (hsz:0<size)
 (v:Value) (n:Nat) (xs:List Value) (hown:w.ownsRow base e size v n xs) (A:Option Addr) (m c:Nat) (cs:List Value) (hl:cs.length=m * size) (hin:CellsIn w A cs) (h1:∀ u∈cs,u.oneCell'=true)
 (h63:n+m≤maxLen) (hbytes:(n+m) * bytes≤140737488355328) (hbase:base≤w.heap.size) :
 ∃ v' w',(Builtin.append_ #[t,t] ty #[v,.slice A m c]).run P w=.ok v' w'∧w'.ownsRow base e size v' (n+m) (xs++cs)∧w.grownBy w' v.ownBlock:=by
 have key:∀ (ad:Addr),A=some ad→(∀ j u,cs[j]?=some u→w.cell? (ad.add j)=some u)→∃ v' w',(Builtin.append_ #[t,t] ty #[v,.slice A m c]).run P w=.ok v' w'∧w'.ownsRow base e size v' (n+m) (xs++cs)∧w.grownBy w' v.ownBlock:=fun ad hA hn=>by
  obtain ⟨v',w',hrun,h2,h3,_,_⟩:=run_append_own_at (P:=P) w base t ty e i0 z size bytes ht hi hz hsize hby hzs hsz v n xs hown ad m c cs hl hn h1 h63 hbytes hbase;exact ⟨v',w',by rw [hA];exact hrun,h2,h3⟩
 rcases hin with h0 | ⟨B,off,rfl,hb2⟩
 ·subst h0
  have hm:m=0:=by
   rcases Nat.eq_zero_or_pos m with h | h
   ·exact h
   ·have:=Nat.mul_pos h hsz;simp at hl;omega
  subst hm;rcases A with _ | ad
  ·refine ⟨v,w,?_,by simpa using hown,World.grownBy.refl w _⟩
   rcases hown.2 with ⟨rfl,h0⟩ | ⟨g,cap,cur,rfl,_,_,hnc,_⟩
   ·simp [Builtin.append_,run_underlying ht,sizeOf,typeInfo,hi,Builtin.lenOf,Builtin.firstCells]
   ·simp [Builtin.append_,run_underlying ht,sizeOf,typeInfo,hi,Builtin.lenOf,Builtin.firstCells,hnc,storeCells]
  ·exact key ad rfl (fun j u hu=>by simp at hu)
 ·exact key _ rfl (fun j u hu=>by rw [Addr.add_mid];exact hb2 j u hu)
theorem yQ {o:Oper} {a:Act} {w:World} {K:Act→World→Prop} {Q:Exit→Act→World→Prop} (s x:Operand) (t:TypeId)
 (ho:o.op=.call { callee:=.builtin .append,args:=#[s,x],argTypes:=#[t,t] })
 (base:Nat) (e:TypeId) (i0:TypeInfo) (z:Value) (size bytes:Nat) (ht:P.underlying t=some (.slice e)) (hi:P.info? e=some i0) (hz:i0.zero=some z)
 (hsize:i0.size=size) (hby:i0.bytes=bytes) (hzs:z.cells.size=size) (hsz:0<size)
 (v:Value) (n:Nat) (xs:List Value) (hs:a.eval s=v) (hown:w.ownsRow base e size v n xs) (A:Option Addr) (m c:Nat) (cs:List Value) (hx:a.eval x=.slice A m c) (hl:cs.length=m * size) (hin:CellsIn w A cs) (h1:∀ u∈cs,u.oneCell'=true)
 (h63:n+m≤maxLen) (hbytes:(n+m) * bytes≤140737488355328) (hbase:base≤w.heap.size)
 (h:∀ v' w',w'.ownsRow base e size v' (n+m) (xs++cs)→w.grownBy w' v.ownBlock→K (a.put o.dst v') w'):o.wp P a w K Q:=by
 obtain ⟨v',w',hrun,h2,h3⟩:=xe (P:=P) w base t o.type e i0 z size bytes ht hi hz hsize hby hzs hsz v n xs hown A m c cs hl hin h1 h63 hbytes hbase;unfold Oper.wp execOp;simp only [ho,resolve,invoke,builtin,Sem.run_bind,Sem.run_pure,Result.andThen_ok,List.map_toArray,List.map_cons,List.map_nil,hs,hx,hrun];exact h v' w' h2 h3
theorem bG {ops:Array Oper} {o:Oper} {a:Act} {w:World} {K:Act→World→Prop} {Q:Exit→Act→World→Prop} {E:Prop} (hw:Region.wanted o (yielded ops a.tmps)=true) (s x:Operand) (t:TypeId)
 (ho:o.op=.call { callee:=.builtin .append,args:=#[s,x],argTypes:=#[t,t] })
 (base:Nat) (e:TypeId) (i0:TypeInfo) (z:Value) (size bytes:Nat) (ht:P.underlying t=some (.slice e)) (hi:P.info? e=some i0) (hz:i0.zero=some z)
 (hsize:i0.size=size) (hby:i0.bytes=bytes) (hzs:z.cells.size=size) (hsz:0<size)
 (v:Value) (n:Nat) (xs:List Value) (hs:a.eval s=v) (hown:w.ownsRow base e size v n xs) (A:Option Addr) (m c:Nat) (cs:List Value) (hx:a.eval x=.slice A m c) (hl:cs.length=m * size) (hin:CellsIn w A cs) (h1:∀ u∈cs,u.oneCell'=true)
 (h63:n+m≤maxLen) (hbytes:(n+m) * bytes≤140737488355328) (hbase:base≤w.heap.size)
 (h:∀ v' w',w'.ownsRow base e size v' (n+m) (xs++cs)→w.grownBy w' v.ownBlock→K (a.put o.dst v') w') :
 if Region.wanted o (yielded ops a.tmps)=true then Oper.wp P o a w K Q else E:=by
 rw [if_pos hw];exact yQ s x t ho base e i0 z size bytes ht hi hz hsize hby hzs hsz v n xs hs hown A m c cs hx hl hin h1 h63 hbytes hbase h
theorem CellsIn.grown {w w':World} {a:Option Addr} {cs:List Value} {row:Option Nat} (h:CellsIn w a cs) (hg:w.grownBy w' row) (hne:∀ b,a=some b→row≠some b.block):CellsIn w' a cs:=by
 rcases h with h | ⟨A,off,rfl,h2⟩
 ·exact Or.inl h
 ·refine Or.inr ⟨A,off,rfl,fun j v hv=>?_⟩
  have hc:=h2 j v hv;exact (World.cell?_of_block (w:=w) (hg.block A (World.block_lt_of_cell? w _ hc) (fun e=>hne _ rfl e.symm))).trans hc
theorem CellsIn.drewN {w:World} {a:Option Addr} {cs:List Value} (h:CellsIn w a cs) (n:Nat):CellsIn (w.drewN n) a cs:=h
theorem own_base {w:World} {base b2:Nat} {e:TypeId} {size:Nat} {v:Value} {n:Nat} {xs:List Value} (h:w.ownsRow base e size v n xs) (hb:b2≤base):w.ownsRow b2 e size v n xs:=by
 exact z130
/-- a slice of one struct, laid down -/
theorem ED {o:Oper} {a:Act} {w:World} {K:Act→World→Prop} {Q:Exit→Act→World→Prop} (t e:TypeId) (x:Operand) (ho:o.op=.buildSlice t 1 #[(0,x)])
 (c:Array Value) (n:Nat) (hx:a.eval x=.agg c) (hc:c.size=n) (hn:0<n) (hnn:n≤16777216) (hu:P.underlying t=some (.slice e)) (hi:(P.info? e).map (·.size)=some n) (hz:((P.info? e).bind (·.zero)).isSome=true)
 (h:K (a.put o.dst (.slice (some ⟨w.heap.size,0,none⟩) 1 1)) (w.alloc (.cells c e))):o.wp P a w K Q:=by
 cases hie:P.info? e with
 | none=>simp [hie] at hi
 | some ie =>
   simp only [hie,Option.map_some,Option.some.injEq,Option.bind_some] at hi hz;obtain ⟨z,hzz⟩:=Option.isSome_iff_exists.1 hz;refine wp_buildSlice t e 1 #[(0,x)] ho c ie z hu hie hzz (by rw [hi];omega) (by rw [hi];omega) ?_ h;have hcs:(Value.agg c).cells.size=ie.size:=by rw [hi];exact hc
   have h2:=Great.fill_whole (s:=ie.size) (by omega) [.agg c] ((Array.range (1 * ie.size)).map (z.cells[· % z.cells.size]!)) (by simp only [List.mem_singleton,forall_eq];exact hcs) (by simp);have e1:((#[(0,x)]:Array (Nat×Operand)).map fun (i,x)=>(i,a.eval x)).toList=(([Value.agg c].zipIdx 0).map fun x=>(x.2,x.1)):=by simp [hx]
   rw [e1,h2];simp [Value.cells]
theorem fM {ops:Array Oper} {o:Oper} {a:Act} {w:World} {K:Act→World→Prop} {Q:Exit→Act→World→Prop} {E:Prop} (hw:Region.wanted o (yielded ops a.tmps)=true) (t e:TypeId) (x:Operand) (ho:o.op=.buildSlice t 1 #[(0,x)])
 (c:Array Value) (n:Nat) (hx:a.eval x=.agg c) (hc:c.size=n) (hn:0<n) (hnn:n≤16777216) (hu:P.underlying t=some (.slice e)) (hi:(P.info? e).map (·.size)=some n) (hz:((P.info? e).bind (·.zero)).isSome=true)
 (h:K (a.put o.dst (.slice (some ⟨w.heap.size,0,none⟩) 1 1)) (w.alloc (.cells c e))) :
 if Region.wanted o (yielded ops a.tmps)=true then Oper.wp P o a w K Q else E:=by
 rw [if_pos hw];exact ED t e x ho c n hx hc hn hnn hu hi hz h
/-- an empty slice, made in a region whose order is open -/
theorem kQ {ops:Array Oper} {o:Oper} {a:Act} {w:World} {K:Act→World→Prop} {Q:Exit→Act→World→Prop} {E:Prop} (hw:Region.wanted o (yielded ops a.tmps)=true) (t e:TypeId)
 (ho:o.op=.buildSlice t 0 #[]) (i0:TypeInfo) (z:Value) (size:Nat) (ht:P.underlying t=some (.slice e)) (hi:P.info? e=some i0) (hz:i0.zero=some z) (hsize:i0.size=size) (hsz:0<size)
 (h:∀ v' w',w'.ownsRow w.heap.size e size v' 0 []→Below w.heap.size w w'→K (a.put o.dst v') w') :
 if Region.wanted o (yielded ops a.tmps)=true then Oper.wp P o a w K Q else E:=by
 rw [if_pos hw];have hrun:(Instr.buildSlice t 0 #[]).run P w=.ok (.slice (some ⟨w.heap.size,0,none⟩) 0 0) (w.alloc (.cells #[] e)):=by
  simp [Instr.buildSlice,run_underlying ht,sizeOf,typeInfo,zeroValue,hi,hz,hsize,newRow,Instr.fill];rw [show (Array.map (fun _=>default) (Array.range 0):Array Value)=#[] from Array.eq_empty_of_size_eq_zero (by simp)]
 unfold Oper.wp execOp;simp only [ho,Sem.run_bind,Array.map_empty,hrun,Result.andThen_ok];exact h _ _ (World.ownsRow_made _ _ _ (Nat.le_refl _) (Nat.zero_le _) (by simp)) ((Below.refl _ _).alloc (Nat.le_refl _) _)
end
section
variable {P:Program}
end
end Go.Proofs.YtepkclldbkhanaaGreat
