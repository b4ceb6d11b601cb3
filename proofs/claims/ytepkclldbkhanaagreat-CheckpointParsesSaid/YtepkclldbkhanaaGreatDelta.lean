/- Slices, bytes, numbers that came in as arguments, out of their readings. Conditions: none. -/
import Derived.Test.YtepkclldbkhanaaGreatCel
import Derived.ProofKit
import Derived.Deep.Slices
import Derived.OpenShut
import Derived.Test.YtepkclldbkhanaaGreatRefM
import Derived.Test.YtepkclldbkhanaaGreatOrmH
import Derived.OwnWalk
set_option linter.unusedSimpArgs false
set_option linter.unusedVariables false
set_option linter.unnecessarySimpa false
set_option maxHeartbeats 16000000
set_option maxRecDepth 100000
open Go.Proofs.Tryz
namespace Go.Proofs.YtepkclldbkhanaaGreat
open Go.ChangeShapes Go.WideShapes Go.ChangeAt Go.RowKit
section
variable {H:Type} {enc:TypeId×Value→H} {P:Program} {w:World} {base:Nat} {spare:Nat→Bool} {held:Bool}
theorem LJ {α:Type} {R:Nat→α→Prop}:∀ (n:Nat),(∀ i,i<n→∃ x,R i x)→∃ l:List α,l.length=n∧∀ i (hi:i<l.length),R i l[i]
 | 0,_=>⟨[],rfl,fun i hi=>by simp at hi⟩
 | n+1,h=>by
   obtain ⟨l,hl,hr⟩:=LJ n (fun i hi=>h i (by omega));obtain ⟨x,hx⟩:=h n (by omega);refine ⟨l++[x],by simp [hl],fun i hi=>?_⟩;by_cases hin:i<l.length
   ·rw [List.getElem_append_left hin];exact hr i hin
   ·have:i=n:=by simp at hi;omega
    subst this;rw [List.getElem_append_right (by omega)];simpa [hl] using hx
end
section
variable {H:Type} {enc:TypeId×Value→H} {w:World} {base:Nat} {spare:Nat→Bool} {held:Bool}
theorem yK {a:Addr} {n:Nat} {cs:List Value} (h:w.cells? base a n=some cs) (hn:0<n):∃ b off,a=⟨b,off,none⟩∧cs.length=n∧w.rangeAt b off cs:=by
 obtain ⟨hb,hl,hc⟩:=World.cells?_some h;have h0:=hc 0 (by omega);rw [List.getElem?_eq_getElem (by omega)] at h0;obtain ⟨b,off,spot⟩:=a;have hs:spot=none:=by simpa [Addr.add] using World.cell?_spot h0
 subst hs;refine ⟨b,off,rfl,hl,fun j v hv=>?_⟩;have hj:=(List.getElem?_eq_some_iff.1 hv).1;have h1:=hc j (by omega);rw [Go.WideShapes.add_plain] at h1;rw [h1];exact hv
/-- a slice's elements, n cells each: where they lie -/
theorem QW {a:Addr} {n len:Nat} (hn:0<n) {R:Nat→List Value→Prop} (hel:∀ i,i<len→∃ cs,w.cells? base (a.add (i * n)) n=some cs∧R i cs) :
 len=0∨∃ A off,a=⟨A,off,none⟩∧∀ i,i<len→∃ cs,cs.length=n∧w.rangeAt A (off+i * n) cs∧R i cs:=by
 rcases Nat.eq_zero_or_pos len with h0 | h0
 ·exact Or.inl h0
 ·right
  obtain ⟨A,off,spot⟩:=a;obtain ⟨cs0,hc0,_⟩:=hel 0 h0;obtain ⟨b',off',hab,_⟩:=yK hc0 hn;have hs:spot=none:=by simp [Addr.add] at hab;exact hab.2.2
  subst hs;refine ⟨A,off,rfl,fun i hi=>?_⟩;obtain ⟨cs,hc,hR⟩:=hel i hi;obtain ⟨b',off',hab,hl,hr⟩:=yK hc hn;rw [Go.WideShapes.add_plain] at hab;simp only [Addr.mk.injEq,and_true] at hab;obtain ⟨rfl,rfl⟩:=hab;exact ⟨cs,hl,hr,hR⟩
theorem open_bytes {fuel:Nat} {cs:List Value} {x:DataW H×List MemPlace} (h:DataW.trod enc prog w 0 spare held fuel 22 cs=some x) :
 ∃ (a:Option Addr) (l:Bytes) (cap:Nat),cs=[.slice a l.length cap]∧BytesIn w a l∧l.length≤maxLen∧l.length≤cap∧(∀ A off,a=some ⟨A,off,none⟩→l≠[]→A<w.heap.size):=by
 rcases Deep.open_slice underlying22 h with ⟨rfl,_⟩ | ⟨a,len,cap,m,n,D,Pl,rfl,_,hl,hm,hmm,_,hel⟩
 ·exact ⟨none,[],0,rfl,Or.inl rfl,Nat.zero_le _,Nat.le_refl _,fun _ _ h=>by cases h⟩
 have hlm:len≤m:=by rw [hmm];split <;> omega
 have hc1:prog.cellsOf 5=1:=by kernel_rfl
 rw [hc1] at hel;have hrows:=QW (a:=a) (n:=1) (len:=len) (by decide) (R:=fun i cs=>∃ c:UInt8,cs=[.int .u8 c.toNat]) (fun i hi=>by
  obtain ⟨cs',hcs,ht⟩:=hel i (by omega);refine ⟨cs',hcs,?_⟩;obtain ⟨x0,e0,_,w0⟩:=DataW.trod_int underlying5 ht;subst e0;have hb:=bounds_u8 w0;exact ⟨UInt8.ofNat x0.toNat,by rw [UInt8.toNat_ofNat'];congr 2;omega⟩)
 rcases hrows with h0 | ⟨A,off,rfl,hr⟩
 ·subst h0
  exact ⟨some a,[],cap,rfl,Or.inl rfl,Nat.zero_le _,Nat.zero_le _,fun _ _ _ h=>absurd rfl h⟩
 ·obtain ⟨l,hll,hlr⟩:=LJ (R:=fun i (c:UInt8)=>w.cell? ⟨A,off+i,none⟩=some (.int .u8 c.toNat)) len (fun i hi=>by
   obtain ⟨cs',_,hrg,c,rfl⟩:=hr i hi;exact ⟨c,by have:=hrg 0 _ rfl;rwa [Nat.mul_one,Nat.add_zero] at this⟩)
  subst hll;refine ⟨_,l,cap,rfl,Or.inr ⟨A,off,rfl,hlr⟩,by omega,hl,fun A' off' he hne=>?_⟩
  cases he
  exact World.block_lt_of_cell? w _ (hlr 0 (List.length_pos_iff.2 hne))
theorem OO {r:Reach} {b0:Nat} {v:Value} {d:DataW H} {p:List MemPlace} (hv:Value.okWide prog w r b0 22 v) (h:DataW.Trod enc prog w 0 spare held 22 v d p) :
 ∃ (a:Option Addr) (l:Bytes) (cap:Nat),v=.slice a l.length cap∧BytesIn w a l∧l.length≤maxLen∧l.length≤cap∧(∀ A off,a=some ⟨A,off,none⟩→l≠[]→A<w.heap.size):=by
 obtain ⟨a,n,c,rfl⟩:=okWide_slice underlying22 hv;obtain ⟨fuel,hf⟩:=h;obtain ⟨a',l,c',he,rest⟩:=open_bytes hf;simp only [Value.cells] at he;exact ⟨a',l,c',by simpa using he,rest⟩
theorem zT {α:Type} {A:Nat} (f:α→List Value) (n:Nat):∀ (l:List α) (off:Nat),(∀ i (hi:i<l.length),(f l[i]).length=n∧w.rangeAt A (off+i * n) (f l[i]))→w.rangeAt A off (l.flatMap f)
 | [],off,_=>fun j v hv=>by simp at hv
 | x :: r,off,h=>by
   have h0:=h 0 (by simp);simp only [List.getElem_cons_zero,Nat.zero_mul,Nat.add_zero] at h0;have ih:=zT f n r (off+n) fun i hi=>by
     have:=h (i+1) (by simp;omega);simp only [List.getElem_cons_succ] at this;rw [show off+n+i * n=off+(i+1) * n by rw [Nat.add_mul];omega];exact this
   intro j v hv;rw [List.flatMap_cons] at hv;by_cases hj:j<(f x).length
   ·rw [List.getElem?_append_left hj] at hv
    exact h0.2 j v hv
   ·rw [List.getElem?_append_right (by omega),h0.1] at hv
    have:=ih (j - n) v hv;rwa [show off+n+(j - n)=off+j by omega] at this
end
end Go.Proofs.YtepkclldbkhanaaGreat
/- The reference's events: put. Conditions: at most 2^20 of them. -/
namespace Go.Proofs.YtepkclldbkhanaaGreat
open Go.RowKit
theorem Ec {α:Type} {f:α→List Value} {n:Nat} (hf:∀ x,(f x).length=n):∀ (l:List α) (k:Nat),(l.flatMap f).take (k * n)=(l.take k).flatMap f
 | l,0=>by simp
 | [],k+1=>by simp
 | g :: l,k+1=>by
   rw [show (k+1) * n=n+k * n by rw [Nat.add_mul];omega,List.take_succ_cons,List.flatMap_cons,List.flatMap_cons,← Ec hf l k,List.take_append,hf g,List.take_of_length_le (by rw [hf g];omega)];simp
theorem Ed {α:Type} {f:α→List Value} {n:Nat} (hf:∀ x,(f x).length=n):∀ (l:List α) (k:Nat),(l.flatMap f).drop (k * n)=(l.drop k).flatMap f
 | l,0=>by simp
 | [],k+1=>by simp
 | g :: l,k+1=>by
   rw [show (k+1) * n=n+k * n by rw [Nat.add_mul];omega,List.drop_succ_cons,List.flatMap_cons,← Ed hf l k,List.drop_append,hf g,List.drop_of_length_le (by rw [hf g];omega)];simp
theorem vP (x:bH):(lD x).length=19:=rfl
theorem Eg (l:List bH) (k:Nat):(aV l).take (k * 19)=aV (l.take k):=Ec vP l k
theorem Eh (l:List bH) (k:Nat):(aV l).drop (k * 19)=aV (l.drop k):=Ed vP l k
theorem kL (l:List bH):(aV l).length=l.length * 19:=by
 induction l with
 | nil=>rfl
 | cons x l ih =>
   show (lD x++aV l).length=_;rw [List.length_append,ih,vP,List.length_cons];omega
theorem lT (l:List bH):∀ u∈aV l,u.oneCell'=true:=by
 intro u hu;obtain ⟨x,_,hx⟩:=List.mem_flatMap.1 hu;exact dR _ _ _ u hx
theorem EvsIn.cells {w:World} {a:Option Addr} {ls:List bH} (h:EvsIn w a ls):CellsIn w a (aV ls):=by
 rcases h.rows with h1 | ⟨A,off,h1,h2⟩
 ·exact Or.inl (by rw [h1];rfl)
 ·exact Or.inr ⟨A,off,h1,zT lD 19 ls off fun i hi=>⟨vP _,h2 i hi⟩⟩
theorem jJ (w:World) (e:Ev) (a:Option Addr) (c:Nat):CellsIn (w.alloc (.cells (ag e a c).toArray 127)) (some ⟨w.heap.size,0,none⟩) (ag e a c):=by
 refine Or.inr ⟨_,_,rfl,fun j v hv=>?_⟩;rw [Nat.zero_add,World.cell?_alloc_new];simpa using hv
/-- one event more, by its dot -/
def xC (e:Ev):List Ev→List Ev
 | []=>[e]
 | x :: l=>if dG x.dot e.dot=true then x :: xC e l else e :: x :: l
end Go.Proofs.YtepkclldbkhanaaGreat
/- The reference's map: Apply. Conditions: as in the text. -/
namespace Go.Proofs.YtepkclldbkhanaaGreat
open Go.RowKit
theorem wY {a b:Option Addr} {n m c d:Nat} (h:Value.slice a n c=Value.slice b m d):a=b∧c=d:=by
 simp only [Value.slice.injEq] at h;exact ⟨h.1,h.2.2⟩
/-- the reference's map, plainly -/
structure RM where
 ctx:List Dot
 kept:List Ev
 dead:List Dot
/-- and with the addresses of its lists -/
structure RMIt where
 ac:Option Addr
 ctx:List Dot
 cc:Nat
 aK:Option Addr
 K:List bH
 cK:Nat
 ad:Option Addr
 dead:List Dot
 cd:Nat
abbrev zo (x:RMIt):List Value:=[.slice x.ac x.ctx.length x.cc,.slice x.aK x.K.length x.cK,.slice x.ad x.dead.length x.cd]
abbrev qV (x:RMIt):Value:=.agg #[.slice x.ac x.ctx.length x.cc,.slice x.aK x.K.length x.cK,.slice x.ad x.dead.length x.cd]
def RMIt.rm (x:RMIt):RM:=⟨x.ctx,aU x.K,x.dead⟩
structure RMIn (w:World) (x:RMIt):Prop where
 ctx:DotsIn w x.ac x.ctx
 kept:EvsIn w x.aK x.K
 dead:DotsIn w x.ad x.dead
 cc:x.ctx.length≤x.cc
 cK:x.K.length≤x.cK
 cd:x.dead.length≤x.cd
theorem RMIn.keep {w w':World} {x:RMIt} (h:RMIn w x) (hb:Below w.heap.size w w'):RMIn w' x:=⟨h.ctx.kept hb,h.kept.kept hb,h.dead.kept hb,h.cc,h.cK,h.cd⟩
structure RMSize (x:RMIt):Prop where
 ctx:x.ctx.length≤1048576
 K:x.K.length≤524288
 dead:x.dead.length≤524288
 ok:∀ d∈x.ctx,bJ d=true
def QX (r:RM) (e:Ev):Bool:=eF e && (!iJ r.ctx e.dot && (decide (jl r.ctx e.dot.a+1=e.dot.seq) && decide (r.kept.length<2048)))
def Gt (r:RM) (e:Ev):RM:=if QX r e=true then ⟨zN r.ctx e.dot.a e.dot.seq,xC e r.kept,sortD (r.dead++e.over)⟩ else r
end Go.Proofs.YtepkclldbkhanaaGreat
/- Deltas: both, Needs, Behind. Conditions: as in the text. -/
namespace Go.Proofs.YtepkclldbkhanaaGreat
open Go.RowKit
theorem MInv.marks {s:MS} (h:MInv s) (hl:s.ctx.length≤4096):aW s.ctx=0:=by
 have key:∀ (l:List Dot) (p:Option Dot),qP l→(∀ d∈l,bJ d=true)→(∀ y,p=some y→∀ d∈l,bK y.a d.a=true)→dn p l=0:=by
  intro l;induction l with
  | nil=>intro p _ _ _;rfl
  | cons x r ih =>
    intro p h1 h2 h3;obtain ⟨h4,h5⟩:=List.pairwise_cons.1 h1;unfold dn;rw [if_pos (h2 x List.mem_cons_self),if_pos]
    ·exact ih _ h5 (fun d hd=>h2 d (List.mem_cons_of_mem _ hd)) (fun y hy d hd=>by cases hy;exact h4 d hd)
    ·cases p with
     | none=>rfl
     | some y=>exact h3 y rfl x List.mem_cons_self
 unfold aW;rw [if_neg (by omega)];exact key _ _ h.ctx h.ctxOk (fun y hy=>(nomatch hy))
/-! ### a nil map -/
end Go.Proofs.YtepkclldbkhanaaGreat
/- Deltas: Of. Conditions: as in the text. -/
namespace Go.Proofs.YtepkclldbkhanaaGreat
open Go.RowKit
theorem MInv.overs {s:MS} (h:MInv s):∀ x∈s.K,x.1.over.length≤64:=fun x hx=>(fE (h.kept x hx).1).2.2.1
theorem MInv.dots {s:MS} (h:MInv s):∀ x∈s.K,DotW x.1.dot:=fun x hx=>lJ (fE (h.kept x hx).1).1
end Go.Proofs.YtepkclldbkhanaaGreat
/- Events merged into a map: the closure of delta.Merge. Conditions: as in the text. -/
namespace Go.Proofs.YtepkclldbkhanaaGreat
open Go.RowKit
/-- what the closure holds: the map's address, how many, the first error -/
structure MgBox (w:World) (m X Y Z:Nat) (n f:Int):Prop where
 x:w.heap[X]?=some (.cells #[.pointer (some ⟨m,0,none⟩)] 26 (0,0))
 y:w.heap[Y]?=some (.cells #[.int .i64 n] 3 (0,0))
 z:w.heap[Z]?=some (.cells #[.int .i64 f] 29 (0,0))
 ne:X≠Y∧X≠Z∧Y≠Z
theorem MgBox.blocks {w w':World} {m X Y Z:Nat} {n f:Int} (h:MgBox w m X Y Z n f) (hx:w'.heap[X]?=w.heap[X]?) (hy:w'.heap[Y]?=w.heap[Y]?) (hz:w'.heap[Z]?=w.heap[Z]?):MgBox w' m X Y Z n f:=⟨hx.trans h.x,hy.trans h.y,hz.trans h.z,h.ne⟩
theorem MgBox.keeps {w w':World} {m X Y Z:Nat} {n f:Int} (h:MgBox w m X Y Z n f) (hk:KeepsC w w'):MgBox w' m X Y Z n f:=⟨hk _ _ _ _ h.x,hk _ _ _ _ h.y,hk _ _ _ _ h.z,h.ne⟩
/-- events merged one after the other: the map behind them, how many were applied, the first error -/
inductive Merged (s:MS):List Ev→MS→Nat→Int→Prop
 | nil:Merged s [] s 0 0
 | snoc {l:List Ev} {s1 s2:MS} {n:Nat} {f:Int} {e:Ev}:Merged s l s1 n f→(if pI s1 e=true then Applied s1 e s2 else s2=s1)→Merged s (l++[e]) s2 (if pI s1 e=true then n+1 else n) (if f=0 then Cj s1 e else f)
theorem Merged.facts {s:MS} {l:List Ev} {s':MS} {n:Nat} {f:Int} (h:Merged s l s' n f) (hi:MInv s):MInv s'∧s'.ctx.length≤s.ctx.length+l.length∧s'.dead.length≤s.dead.length+64 * l.length∧n≤l.length:=by
 induction h with
 | nil=>exact ⟨hi,by simp,by simp,Nat.le_refl _⟩
 | snoc _ hap ih =>
   obtain ⟨i1,i2,i3,i4⟩:=ih;obtain ⟨g1,g2⟩:=RetAp.sizes hap;refine ⟨RetAp.inv (m:=0) (b:=⟨0,0,0,0,0⟩) i1 hap,?_,?_,?_⟩
   ·simp only [List.length_append,List.length_cons,List.length_nil];omega
   ·simp only [List.length_append,List.length_cons,List.length_nil];omega
   ·simp only [List.length_append,List.length_cons,List.length_nil];split <;> omega
end Go.Proofs.YtepkclldbkhanaaGreat
/- The delta laws' own example. Conditions: none. -/
namespace Go.Proofs.YtepkclldbkhanaaGreat
open Go.RowKit
theorem Merged.none {s s':MS} {l:List Ev} {n:Nat} {f:Int} (h:Merged s l s' n f) (hl:l=[]):s'=s∧n=0∧f=0:=by
 cases h with
 | nil=>exact ⟨rfl,rfl,rfl⟩
 | snoc _ _=>simp at hl
theorem Merged.one {s s':MS} {l:List Ev} {e:Ev} {n:Nat} {f:Int} (h:Merged s l s' n f) (hl:l=[e]):(if pI s e=true then Applied s e s' else s'=s)∧n=(if pI s e=true then 1 else 0)∧f=Cj s e:=by
 cases h with
 | nil=>simp at hl
 | snoc h2 hap =>
   rename_i l2 s1 n2 f2 e2;have h3:l2=[]∧e2=e:=by
    have h4:=congrArg List.length hl;simp at h4;subst h4;simpa using hl
   obtain ⟨rfl,rfl⟩:=h3;obtain ⟨rfl,rfl,rfl⟩:=h2.none rfl;exact ⟨hap,by simp,by simp⟩
end Go.Proofs.YtepkclldbkhanaaGreat
