/- The disk's law: the reference's files behind a crash. Conditions: as in the text. -/
import Derived.Test.YthphepeniaemoaaGreatCel
import Derived.Test.YthphepeniaemoaaGreatDCrash
import Derived.Test.YthphepeniaemoaaGreatTrod
import Derived.Test.YthphepeniaemoaaGreatDAwake
import Derived.Test.YthphepeniaemoaaGreatRefE
import Derived.Test.YthphepeniaemoaaGreatIsB
import Derived.Test.YthphepeniaemoaaGreatCkR
import Derived.Test.YthphepeniaemoaaGreatCkAw
set_option linter.unusedSimpArgs false
set_option linter.unusedVariables false
set_option linter.unnecessarySimpa false
set_option maxHeartbeats 16000000
set_option maxRecDepth 100000
open Go.Proofs.Tryz
namespace Go.Proofs.YthphepeniaemoaaGreat
open Go.RowKit
end Go.Proofs.YthphepeniaemoaaGreat
/- The disk's steps and keeps as arguments. Conditions: none. -/
namespace Go.Proofs.YthphepeniaemoaaGreat
open Go.ChangeShapes Go.WideShapes Go.ChangeAt Go.RowKit
/-- a step, and where its bytes and keeps lie -/
structure StepIt where
 kind:Int
 n:Int
 name:ByteArray
 dst:ByteArray
 b:Bytes
 ab:Option Addr
 cb:Nat
 l:Ks
 al:Option Addr
 cl:Nat
def X6 (l:Ks):Prop:=∀ p∈l,p.1.size<=maxLen/\(Lit.int .i64 p.2).wf=true
structure StepIn (w:World) (s:StepIt):Prop where
 name:s.name.size<=maxLen
 dst:s.dst.size<=maxLen
 bytes:BytesIn w s.ab s.b
 keeps:CellsIn w s.al (kcs s.l)
 ks:X6 s.l
 blen:s.b.length<=maxLen
 llen:s.l.length<=maxLen
theorem StepIn.kept {w w':World} {s:StepIt} (h:StepIn w s) (hb:Below w.heap.size w w'):StepIn w' s:=⟨h.name,h.dst,h.bytes.kept hb,h.keeps.kept hb,h.ks,h.blen,h.llen⟩
section
variable {H:Type} {enc:TypeId×Value->H} {w:World} {base:Nat} {spare:Nat->Bool} {held:Bool}
end
variable {F:Nat->Prop} {d:Nat} {S:DS} {b:Nat} {D:DataW Unit} {w w':World}
/-- the blocks that are a disk's, and no others -/
def Ex (w:World) (F:Nat->Prop) (d b:Nat) (D:DataW Unit):Nat->Prop:=fun k=>F k/\k<w.heap.size/\(k=d\/k=b\/∃ s:ByteArray,D.atKey (nk s) .nil=.lit (.int .i64 k))
theorem DkIn.exact (h:DkIn w F d S b D):DkIn w (Ex w F d b D) d S b D :=
 ⟨⟨h.fd,Fr.lt h.cells,a8 rfl⟩,h.cells,⟨h.fb,by obtain ⟨es,cl,hb,_⟩:=h.own;exact Fr.lt hb,ba (a8 rfl)⟩,h.own,
   ⟨h.files.none,fun s f hg=>by
    obtain ⟨fb,h1,h2,h3⟩:=h.files.some s f hg;have hlt:fb<w.heap.size:=by obtain ⟨a,cap,h4,_⟩:=h3;exact Fr.lt h4
    exact ⟨fb,⟨h1,hlt,ba (ba ⟨s,h2⟩)⟩,h2,h3⟩,h.files.apart,h.files.has,h.files.size⟩⟩
def DS.step (S:DS) (s:StepIt):DS :=
 if s.kind=1 then (S.append s.name s.b).1 else if s.kind=2 then (S.sync s.name).1 else if s.kind=3 then (S.trunc s.name s.n).1 else if s.kind=4 then (S.rename s.name s.dst).1
 else if s.kind=5 then (S.remove s.name).1 else if s.kind=8 then (S.rarm s.n).1 else if s.kind=6 then S.crash s.l else S
theorem DInv.step {S:DS} (h:DInv S) (s:StepIt):DInv (S.step s):=by
 unfold DS.step;repeat' split
 ·exact h.append _ _
 ·exact h.sync _
 ·exact h.trunc _ _
 ·exact h.rename _ _
 ·exact h.remove _
 ·exact h.arm' _
 ·exact h.crash _
 ·exact h
theorem VF (n:Int) (h:DkIn w F d S b D):Calls prog 9 #[.pointer (some ⟨d,0,none⟩),.int .i64 n] w (RetDk F d b (S.rarm n).1 (S.rarm n).2 w):=by
 refine (TV d b S.arm S.down n w h.cells).mono ?_;rintro e w' ⟨rfl,hc,hf⟩;have h2:=h.setCells hc hf;refine ⟨?_,⟨D,?_⟩,hf.mono fun k _ hk=>by subst hk;exact h.fd⟩
 ·unfold DS.rarm;split <;> rfl
 ·have:(S.rarm n).1={ S with arm:=if sO n then n.toNat else S.arm,down:=S.down }:=by unfold DS.rarm;split <;> rfl
  rw [this];exact h2.mono fun k hk=>a8 hk
theorem uN (w:World) (o p q:Obj):(((w.alloc o).alloc p).alloc q).heap[w.heap.size+1+1]?=some q:=by
 have:=bP ((w.alloc o).alloc p) q;rwa [show ((w.alloc o).alloc p).heap.size=w.heap.size+1+1 by simp] at this
theorem B3.fr {T:Nat->Prop} {R:Nat} {t:TypeId} {x y z:Value} (h:B3 w R t x y z) (hf:Fr T w w') (hn:¬ T R):B3 w' R t x y z:=(hf.block R h.lt hn).trans h
section
variable {F:Nat->Prop} {d:Nat} {S:DS} {b:Nat} {D:DataW Unit} {w w':World}
/-- no two numbers lie side by side -/
def Dx (w:World) (k:Nat):Prop:=∀ o x y,w.cell? ⟨k,o,none⟩=some (.int .i64 x)->w.cell? ⟨k,o+1,none⟩≠some (.int .i64 y)
theorem DkIn.noPair (h:DkIn w F d S b D):∀ k,Ex w F d b D k->Dx w k:=by
 rintro k ⟨_,_,hk | hk | ⟨s,hk⟩⟩ o x y h1 h2
 ·subst hk
  simp only [World.cell?,show w.heap[k]?=_ from h.cells] at h1 h2;match o,h1,h2 with
  | 0,h1,_=>simp at h1
  | 1,_,h2=>simp at h2
  | o+2,_,h2=>simp at h2
 ·subst hk
  obtain ⟨es,cl,hb,_⟩:=h.own;simp [World.cell?,hb] at h1
 ·cases hg:ed S.f s with
  | none=>have:=h.files.none s hg;rw [this] at hk;cases hk
  | some f =>
    obtain ⟨fb,_,h3,a,c,h4,_⟩:=h.files.some s f hg;obtain rfl:fb=k:=by have:=h3.symm.trans hk;simp at this;omega
    simp only [World.cell?,h4] at h1 h2;match o,h1,h2 with
    | 0,h1,_=>simp at h1
    | o+1,_,h2=>simp at h2
/-- a block of another type is none of the disk's -/
theorem DkIn.other (h:DkIn w F d S b D) {k:Nat} {cur:Array Value} {e:TypeId} (hk:w.heap[k]?=some (.cells cur e (0,0))) (he:e≠71/\e≠116):¬ Ex w F d b D k:=by
 rintro ⟨_,_,h1 | h1 | ⟨s,h1⟩⟩
 ·subst h1
  have:=hk.symm.trans h.cells;simp only [Option.some.injEq,Obj.cells.injEq] at this;exact he.1 this.2.1
 ·subst h1
  obtain ⟨es,cl,hb,_⟩:=h.own;have:=hk.symm.trans hb;simp at this
 ·cases hg:ed S.f s with
  | none=>have:=h.files.none s hg;rw [this] at h1;cases h1
  | some f =>
    obtain ⟨fb,_,h3,a,c,h4,_⟩:=h.files.some s f hg;obtain rfl:fb=k:=by have:=h3.symm.trans h1;simp at this;omega
    have:=hk.symm.trans h4;simp only [Option.some.injEq,Obj.cells.injEq] at this;exact he.2 this.2.1
theorem DotsIn.frP {T:Nat->Prop} {a:Option Addr} {l:List Dot} (h:DotsIn w a l) (hf:Fr T w w') (hT:∀ k,T k->Dx w k):DotsIn w' a l:=by
 rcases h with h | ⟨A,off,h1,h2⟩
 ·exact a8 h
 by_cases hne:l=[]
 ·exact a8 hne
 have h0:0<l.length:=List.length_pos_iff.2 hne;have hA:¬ T A:=fun hA=>hT A hA _ _ _ (h2.dev 0 h0) (h2.inc 0 h0);have hkc:∀ o n,w.cell? ⟨A,o,none⟩=some (.int .i64 n)->w'.cell? ⟨A,o,none⟩=some (.int .i64 n):=fun o n hc=>hf.kept hc hA
 exact z139
theorem EvsIn.frP {T:Nat->Prop} {a:Option Addr} {ls:List EvIt} (h:EvsIn w a ls) (hf:Fr T w w') (hT:∀ k,T k->Dx w k):EvsIn w' a ls:=by
 refine ⟨h.rows.imp id fun ⟨A,off,h1,h2⟩=>⟨A,off,h1,fun i hi j v hv=>?_⟩,fun x hx=>(h.dots x hx).frP hf hT⟩;have hA:¬ T A:=fun hA=>hT A hA _ _ _ (h2 i hi 0 _ rfl) (h2 i hi 1 _ rfl);exact hf.kept (h2 i hi j v hv) hA
theorem RMIn.frP {T:Nat->Prop} {x:RMIt} (h:RMIn w x) (hf:Fr T w w') (hT:∀ k,T k->Dx w k):RMIn w' x :=
 ⟨h.ctx.frP hf hT,h.kept.frP hf hT,h.dead.frP hf hT,h.cc,h.cK,h.cd⟩
end
section
variable {H:Type} {enc:TypeId×Value->H} {w:World} {spare:Nat->Bool} {held:Bool}
open Go.ChangeShapes Go.WideShapes Go.ChangeAt
theorem JJ {fuel:Nat} {cs:List Value} {x:DataW H×List MemPlace} (hsz:cs.length=6) (hf:DataW.trod enc prog w 0 spare held fuel 35 cs=some x) :
 ∃ (d i:Int) (s:Stamp) (a:Option Addr) (ls:List EvIt) (cap:Nat),cs=ny d i s (.slice a ls.length cap)/\EvsArg w a ls:=by
 match cs,hsz with
 | [c0,c1,c2,c3,c4,c5],_ =>
   obtain ⟨_,_,hD⟩:=bg underlying35 hf 0 _ rfl 1 (by kernel_rfl) [c0] rfl;obtain ⟨_,_,hI⟩:=bg underlying35 hf 1 _ rfl 1 (by kernel_rfl) [c1] rfl;obtain ⟨_,_,hS⟩:=bg underlying35 hf 2 _ rfl 3 (by kernel_rfl) [c2,c3,c4] rfl;obtain ⟨_,_,hL⟩:=bg underlying35 hf 3 _ rfl 1 (by kernel_rfl) [c5] rfl;obtain ⟨_,_,h2⟩:=bg underlying32 hS 0 _ rfl 1 (by kernel_rfl) [c2] rfl;obtain ⟨_,_,h3⟩:=bg underlying32 hS 1 _ rfl 1 (by kernel_rfl) [c3] rfl;obtain ⟨_,_,h4⟩:=bg underlying32 hS 2 _ rfl 1 (by kernel_rfl) [c4] rfl;obtain ⟨x0,e0,_,_⟩:=DataW.trod_int underlying3 hD;obtain ⟨x1,e1,_,_⟩:=DataW.trod_int underlying3 hI;obtain ⟨x2,e2,_,_⟩:=DataW.trod_int underlying3 h2;obtain ⟨x3,e3,_,_⟩:=DataW.trod_int underlying3 h3;obtain ⟨x4,e4,_,_⟩:=DataW.trod_int underlying3 h4;obtain ⟨a,ls,cap,e5,hE⟩:=Qm hL;simp only [List.cons.injEq,and_true] at e0 e1 e2 e3 e4 e5;subst e0 e1 e2 e3 e4 e5;exact ⟨x0,x1,⟨x2,x3,x4⟩,a,ls,cap,rfl,hE⟩
theorem E8 {r:Reach} {b0:Nat} {v:Value} {d:DataW H} {p:List MemPlace} (hv:Value.okWide prog w r b0 35 v) (h:DataW.Trod enc prog w 0 spare held 35 v d p) :
 ∃ (d i:Int) (s:Stamp) (a:Option Addr) (ls:List EvIt) (cap:Nat),v=.agg (snA d i s (.slice a ls.length cap))/\EvsArg w a ls:=by
 obtain ⟨⟨cs⟩,rfl,hsz⟩:=okWide_struct underlying35 hv;have hc:prog.cellsOf 35=6:=by kernel_rfl
 rw [hc] at hsz;obtain ⟨fuel,hf⟩:=h;simp only [Value.cells] at hf;obtain ⟨d,i,s,a,ls,cap,rfl,hE⟩:=JJ hsz hf;exact ⟨d,i,s,a,ls,cap,rfl,hE⟩
end
section
variable {P:Program}
theorem Ff {o:Oper} {a:Act} {w:World} {K:Act->World->Prop} {Q:Exit->Act->World->Prop} (t e:TypeId) (x y:Operand) (ho:o.op=.buildSlice t 2 #[(0,x),(1,y)])
 (c d:Array Value) (n:Nat) (hx:a.eval x=.agg c) (hy:a.eval y=.agg d) (hc:c.size=n) (hd:d.size=n) (hn:0<n) (hnn:n<=1048576) (hu:P.underlying t=some (.slice e)) (hi:(P.info? e).map (·.size)=some n) (hz:((P.info? e).bind (·.zero)).isSome=true)
 (h:K (a.put o.dst (.slice (some ⟨w.heap.size,0,none⟩) 2 2)) (w.alloc (.cells (c.toList++d.toList).toArray e))):o.wp P a w K Q:=by
 cases hie:P.info? e with
 | none=>simp [hie] at hi
 | some ie =>
   simp only [hie,Option.map_some,Option.some.injEq,Option.bind_some] at hi hz;obtain ⟨z,hzz⟩:=Option.isSome_iff_exists.1 hz;refine wp_buildSlice t e 2 #[(0,x),(1,y)] ho _ ie z hu hie hzz (by rw [hi];omega) (by rw [hi];omega) ?_ h;have hcs:∀ v∈[Value.agg c,Value.agg d],v.cells.size=ie.size:=by
    intro v hv;rw [hi];rcases List.mem_cons.1 hv with rfl | hv
    ·exact hc
    ·rcases List.mem_cons.1 hv with rfl | hv
     ·exact hd
     ·cases hv
   have h2:=Great.fill_whole (s:=ie.size) (by omega) [.agg c,.agg d] ((Array.range (2 * ie.size)).map (z.cells[· % z.cells.size]!)) hcs (by simp);have e1:((#[(0,x),(1,y)]:Array (Nat×Operand)).map fun (i,x)=>(i,a.eval x)).toList=(([Value.agg c,Value.agg d].zipIdx 0).map fun x=>(x.2,x.1)):=by simp [hx,hy]
   rw [e1,h2];simp [Value.cells]
theorem xJ {ops:Array Oper} {rest:List Oper} {o:Oper} {a:Act} {w:World} {Q:Exit->Act->World->Prop} (hg:o.guard=none) (t e:TypeId) (x y:Operand) (ho:o.op=.buildSlice t 2 #[(0,x),(1,y)])
 (c d:Array Value) (n:Nat) (hx:a.eval x=.agg c) (hy:a.eval y=.agg d) (hc:c.size=n) (hd:d.size=n) (hn:0<n) (hnn:n<=1048576) (hu:P.underlying t=some (.slice e)) (hi:(P.info? e).map (·.size)=some n) (hz:((P.info? e).bind (·.zero)).isSome=true) (cs:Array Value) (hcs:(c.toList++d.toList).toArray=cs)
 (h:wpList P ops Q rest (a.put o.dst (.slice (some ⟨w.heap.size,0,none⟩) 2 2)) (w.alloc (.cells cs e))):wpList P ops Q (o :: rest) a w :=
 wpList_plain hg fun _ hK=>Ff t e x y ho c d n hx hy hc hd hn hnn hu hi hz (hK _ _ (by rw [hcs];exact h))
end
theorem blk_range {w:World} {X:Nat} {cs:Array Value} {t:TypeId} {f:Nat×Nat} (h:w.heap[X]?=some (.cells cs t f)):w.rangeAt X 0 cs.toList:=fun j v hv=>by
 rw [av];simp only [World.cell?,h];simpa using hv
/-- the program's disk alone: its blocks lie from base on, but not in the gap from lo to hi -/
def OneDk (base lo hi:Nat) (S:DS) (wr:World):Prop:=(∃ D,DkIn wr (fun q=>base<=q/\(q<lo\/hi<=q)) (base+1) S base D)/\DInv S/\base<=hi/\hi<=wr.heap.size
/-- what no turn of the disk turns: F its blocks -/
structure NoTurn (F:Nat->Prop) (w:World) (lo hi:Nat):Prop where
 gap:∀ k,F k->k<lo\/hi<=k
 pair:∀ k,F k->Dx w k
 typed:∀ k cur e,w.heap[k]?=some (.cells cur e (0,0))->(e≠71/\e≠116)->¬ F k
/-- its blocks in a world, and what holds behind a turn of it -/
theorem OneDk.opened {base lo hi:Nat} {S:DS} {w:World} (h:OneDk base lo hi S w):∃ F D,DkIn w F (base+1) S base D/\(∀ k,F k->base<=k/\k<w.heap.size)/\NoTurn F w lo hi /\
 ∀ S' w',DInv S'->(∃ D',DkIn w' (fun k=>F k\/w.heap.size<=k) (base+1) S' base D')->Fr F w w'->OneDk base lo hi S' w':=by
 obtain ⟨⟨D,hD⟩,hi',h3,h4⟩:=h;refine ⟨_,D,hD.exact,fun k hk=>⟨hk.1.1,hk.2.1⟩,⟨fun k hk=>hk.1.2,hD.noPair,fun k cur e h1 h2=>hD.other h1 h2⟩,fun S' w' hi' ⟨D',hD'⟩ hf=>⟨⟨D',hD'.mono fun k hk=>?_⟩,hi',h3,Nat.le_trans h4 hf.size⟩⟩;rcases hk with hk | hk
 ·exact hk.1
 ·exact ⟨by omega,ba (by omega)⟩
theorem MpIn.frP {F:Nat->Prop} {w w':World} {m:Nat} {b:MB} {s:MS} {lo hi:Nat} (h:MpIn w m b s) (hf:Fr F w w') (hT:NoTurn F w lo hi) (hfo:∀ k,foot b s.A k->lo<=k/\k<hi):MpIn w' m b s:=by
 have hm:=hf.block m (lt_of_block h.cell) (hT.typed _ _ _ h.cell (by decide));have hv:=hf.block b.v (lt_of_block h.vec.cell) (hT.typed _ _ _ h.vec.cell (by decide));have hk:∀ k,foot b s.A k->w'.heap[k]?=w.heap[k]?:=fun k hk=>by
  obtain ⟨es,cl,hh⟩:=h.maps hk;exact hf.block k (lt_of_block hh) (fun e=>by have:=hT.gap k e;have:=hfo k hk;omega)
 exact ⟨hm.trans h.cell,h.vec.block hv (hk _ (qC b _)),h.kept.block (hk _ (jK b _)),fun x hx=>(h.overs x hx).frP hf hT.pair,h.dead.block (hk _ (iW b _)),h.alive.block (hk _ (gZ b _)),fun p hp=>(h.inner p hp).block (hk _ (jL b hp)),h.some,h.keys,h.nodup⟩
/-- the law's boxes, and what they hold -/
structure KpBox (w:World) (X1 X2 Z:Nat) (d1 i1:Int) (st1:Stamp) (m1:Nat) (y1:RMIt) (d2 i2:Int) (st2:Stamp) (m2:Nat) (y2:RMIt) (n1 n2:Int):Prop where
 s1:w.heap[X1]?=some (.cells (snA d1 i1 st1 (.pointer (some ⟨m1,0,none⟩))) 42 (0,0))
 t1:w.heap[X1+1]?=some (.cells (rkA d1 i1 st1 y1) 48 (0,0))
 s2:w.heap[X2]?=some (.cells (snA d2 i2 st2 (.pointer (some ⟨m2,0,none⟩))) 42 (0,0))
 t2:w.heap[X2+1]?=some (.cells (rkA d2 i2 st2 y2) 48 (0,0))
 z:w.heap[Z]?=some (.cells #[.int .i64 n1,.int .i64 n2] 58 (0,0))
 y1:RMIn w y1
 y2:RMIn w y2
section
variable {w w':World} {X1 X2 Z:Nat} {d1 i1:Int} {st1:Stamp} {m1:Nat} {y1:RMIt} {d2 i2:Int} {st2:Stamp} {m2:Nat} {y2:RMIt} {n1 n2:Int}
theorem KpBox.below (h:KpBox w X1 X2 Z d1 i1 st1 m1 y1 d2 i2 st2 m2 y2 n1 n2) (hb:Below w.heap.size w w'):KpBox w' X1 X2 Z d1 i1 st1 m1 y1 d2 i2 st2 m2 y2 n1 n2 :=
 ⟨(hb.block _ (lt_of_block h.s1)).trans h.s1,(hb.block _ (lt_of_block h.t1)).trans h.t1,(hb.block _ (lt_of_block h.s2)).trans h.s2,(hb.block _ (lt_of_block h.t2)).trans h.t2,(hb.block _ (lt_of_block h.z)).trans h.z,h.y1.keep hb,h.y2.keep hb⟩
theorem KpBox.turn {F:Nat->Prop} {lo hi:Nat} (h:KpBox w X1 X2 Z d1 i1 st1 m1 y1 d2 i2 st2 m2 y2 n1 n2) (hf:Fr F w w') (hT:NoTurn F w lo hi):KpBox w' X1 X2 Z d1 i1 st1 m1 y1 d2 i2 st2 m2 y2 n1 n2 :=
 ⟨(hf.block _ (lt_of_block h.s1) (hT.typed _ _ _ h.s1 (by decide))).trans h.s1,(hf.block _ (lt_of_block h.t1) (hT.typed _ _ _ h.t1 (by decide))).trans h.t1,(hf.block _ (lt_of_block h.s2) (hT.typed _ _ _ h.s2 (by decide))).trans h.s2,(hf.block _ (lt_of_block h.t2) (hT.typed _ _ _ h.t2 (by decide))).trans h.t2,(hf.block _ (lt_of_block h.z) (hT.typed _ _ _ h.z (by decide))).trans h.z,h.y1.frP hf hT.pair,h.y2.frP hf hT.pair⟩
end
section
open Go.ChangeShapes Go.WideShapes Go.ChangeAt
theorem Rx {H:Type} {enc:TypeId×Value->H} {w:World} {spare:Nat->Bool} {held:Bool} {r:Reach} {b0:Nat} {v:Value} {d:DataW H} {p:List MemPlace} (hv:Value.okWide prog w r b0 58 v) (h:DataW.Trod enc prog w 0 spare held 58 v d p) :
 ∃ n m:Int,v=.agg #[.int .i64 n,.int .i64 m]/\(Lit.int .i64 m).wf=true:=by
 have hs:∃ cs,v=.agg cs/\cs.size=prog.cellsOf 58:=by
  simp only [Value.okWide,underlying58] at hv;obtain ⟨cs,h1,h2,_⟩:=hv;exact ⟨cs,h1,h2⟩
 obtain ⟨⟨cs⟩,rfl,hsz⟩:=hs;have hc:prog.cellsOf 58=2:=by kernel_rfl
 have hc1:prog.cellsOf 3=1:=by kernel_rfl
 rw [hc] at hsz;obtain ⟨fuel,hf⟩:=h;match cs,hsz with
 | [c0,c1],_ =>
   simp only [Value.cells] at hf;obtain ⟨xs,m,_,_,_,hl,hx⟩:=DataW.trod_array underlying58 hf;have h0:=hx 0 (by decide);have h1:=hx 1 (by decide);rw [hc1,List.getElem?_eq_getElem (by omega)] at h0 h1;obtain ⟨x0,e0,_,_⟩:=DataW.trod_int underlying3 h0;obtain ⟨x1,e1,_,w1⟩:=DataW.trod_int underlying3 h1;simp at e0 e1;subst e0 e1;exact ⟨x0,x1,rfl,w1⟩
end
theorem lawCkK_any (d1 i1:Int) (st1:Stamp) (a1:Option Addr) (c1:Nat) (l1:List EvIt) (d2 i2:Int) (st2:Stamp) (a2:Option Addr) (c2:Nat) (l2:List EvIt) (n1 n2:Int) (w:World) (hn2:(Lit.int .i64 n2).wf=true) (hE1:EvsArg w a1 l1) (hE2:EvsArg w a2 l2) :
 Calls prog 4 #[.agg (snA d1 i1 st1 (.slice a1 l1.length c1)),.agg (snA d2 i2 st2 (.slice a2 l2.length c2)),.agg #[.int .i64 n1,.int .i64 n2]] w fun x w'=>x=.returned (.bool true)/\Below w.heap.size w w':=by
 have HA:=aa Jr;have MF:∀ X,Below w.heap.size w X->Calls prog 7 #[.slice a1 l1.length c1,.int .i64 12] X fun x w'=>x=.returned (.bool (lightAll 12 (evsOf l1)))/\Below X.heap.size X w':=fun X hX=>xH a1 c1 12 l1 X (by decide) hE1.len (hE1.evs.kept hX) (fun x hx=>⟨(hE1.each x hx).over,(hE1.each x hx).name,(hE1.each x hx).domain,(hE1.each x hx).path,(hE1.each x hx).value⟩);have MC:∀ X,Below w.heap.size w X->Calls prog 7 #[.slice a2 l2.length c2,.int .i64 12] X fun x w'=>x=.returned (.bool (lightAll 12 (evsOf l2)))/\Below X.heap.size X w':=fun X hX=>xH a2 c2 12 l2 X (by decide) hE2.len (hE2.evs.kept hX) (fun x hx=>⟨(hE2.each x hx).over,(hE2.each x hx).name,(hE2.each x hx).domain,(hE2.each x hx).path,(hE2.each x hx).value⟩);have TA:=hE1.evs;have Tz:=hE2.evs
 cases hli1:lightAll 12 (evsOf l1) with
 | false =>
   simp only [hli1] at MF;have HL1:=aa MF;clear MF MC hli1 hE1 hE2 TA Tz;go_enter func4,ntmps4;go_upto_region 1 with fail
   refine aN (fun W hW=>?_);have hb0:Below w.heap.size w W:=by rw [hW.out];go_grown
   have p1:W.heap[w.heap.size]?=some (.cells (snA d1 i1 st1 (.slice a1 l1.length c1)) 35 (0,0)):=by rw [hW.out];exact (((bb (w.heap.size+1) _).alloc (by simp) _).block _ (by simp)).trans ((((bb (w.heap.size+1) _).alloc (by simp) _).block _ (by simp)).trans (bP w _))
   have p2:W.heap[w.heap.size+1]?=some (.cells (snA d2 i2 st2 (.slice a2 l2.length c2)) 35 (0,0)):=by rw [hW.out];exact (((bb (w.heap.size+2) _).alloc (by simp) _).block _ (by simp)).trans (iH w _ _)
   have p3:W.heap[w.heap.size+2]?=some (.cells #[.int .i64 n1,.int .i64 n2] 58 (0,0)):=by rw [hW.out];exact uN w _ _ _
   clear hW;have q1:=blk_range p1;have q2:=blk_range p2;have x5:W.cell? ⟨w.heap.size,5,none⟩=some (.slice a1 l1.length c1):=q1 5 _ rfl;have y5:W.cell? ⟨w.heap.size+1,5,none⟩=some (.slice a2 l2.length c2):=q2 5 _ rfl;go_wp2_with (first
    | (go_at_call 7;(with_reducible refine (HL1.out _ hb0).mono ?_);rintro x w1 ⟨rfl,hb1⟩;have rO:=below2 hb0 hb1;have y51:=kept hb1 y5)
    | (go_at_call 5;(with_reducible refine (HA.out _).mono ?_);rintro x w9 ⟨rfl,hb9⟩))
   go_ret;exact ⟨rfl,below2 rO hb9⟩
 | true =>
 obtain ⟨Yv,hsl1⟩:=light_evs hli1;simp only [hli1] at MF;have HL1:=aa MF
 cases hli2:lightAll 12 (evsOf l2) with
 | false =>
   simp only [hli2] at MC;have HL2:=aa MC;clear MF MC hli1 hli2 hE1 hE2 TA Tz;go_enter func4,ntmps4;go_upto_region 1 with fail
   refine aN (fun W hW=>?_);have hb0:Below w.heap.size w W:=by rw [hW.out];go_grown
   have p1:W.heap[w.heap.size]?=some (.cells (snA d1 i1 st1 (.slice a1 l1.length c1)) 35 (0,0)):=by rw [hW.out];exact (((bb (w.heap.size+1) _).alloc (by simp) _).block _ (by simp)).trans ((((bb (w.heap.size+1) _).alloc (by simp) _).block _ (by simp)).trans (bP w _))
   have p2:W.heap[w.heap.size+1]?=some (.cells (snA d2 i2 st2 (.slice a2 l2.length c2)) 35 (0,0)):=by rw [hW.out];exact (((bb (w.heap.size+2) _).alloc (by simp) _).block _ (by simp)).trans (iH w _ _)
   have p3:W.heap[w.heap.size+2]?=some (.cells #[.int .i64 n1,.int .i64 n2] 58 (0,0)):=by rw [hW.out];exact uN w _ _ _
   clear hW;have q1:=blk_range p1;have q2:=blk_range p2;have x5:W.cell? ⟨w.heap.size,5,none⟩=some (.slice a1 l1.length c1):=q1 5 _ rfl;have y5:W.cell? ⟨w.heap.size+1,5,none⟩=some (.slice a2 l2.length c2):=q2 5 _ rfl;go_wp2_with (first
    | (go_at_call 7;(with_reducible refine (HL1.out _ hb0).mono ?_);rintro x w1 ⟨rfl,hb1⟩;have rO:=below2 hb0 hb1;have y51:=kept hb1 y5)
    | (go_at_call 7;(with_reducible refine (HL2.out _ rO).mono ?_);rintro x w2 ⟨rfl,hb2⟩;have hbw2:=below2 rO hb2)
    | (go_at_call 5;(with_reducible refine (HA.out _).mono ?_);rintro x w9 ⟨rfl,hb9⟩))
   go_ret;exact ⟨rfl,below2 hbw2 hb9⟩
 | true =>
 obtain ⟨Yu,hsl2⟩:=light_evs hli2;simp only [hli2] at MC;have HL2:=aa MC;have HM1:=aa (fun (X:World) (h:EvsIn X a1 l1)=>Ey d1 i1 st1 a1 c1 l1 X (by omega) h hsl1);have HM2:=aa (fun (X:World) (h:EvsIn X a2 l2)=>Ey d2 i2 st2 a2 c2 l2 X (by omega) h hsl2);have Xy:=aa hsl1;have Xx:=aa hsl2;clear MF MC hli1 hli2 hE1 hE2 hsl1 hsl2;go_enter func4,ntmps4;go_upto_region 1 with fail
 refine aN (fun W hW=>?_);have hb0:Below w.heap.size w W:=by rw [hW.out];go_grown
 have p1:W.heap[w.heap.size]?=some (.cells (snA d1 i1 st1 (.slice a1 l1.length c1)) 35 (0,0)):=by rw [hW.out];exact (((bb (w.heap.size+1) _).alloc (by simp) _).block _ (by simp)).trans ((((bb (w.heap.size+1) _).alloc (by simp) _).block _ (by simp)).trans (bP w _))
 have p2:W.heap[w.heap.size+1]?=some (.cells (snA d2 i2 st2 (.slice a2 l2.length c2)) 35 (0,0)):=by rw [hW.out];exact (((bb (w.heap.size+2) _).alloc (by simp) _).block _ (by simp)).trans (iH w _ _)
 have p3:W.heap[w.heap.size+2]?=some (.cells #[.int .i64 n1,.int .i64 n2] 58 (0,0)):=by rw [hW.out];exact uN w _ _ _
 clear hW;have q1:=blk_range p1;have q2:=blk_range p2;have x5:W.cell? ⟨w.heap.size,5,none⟩=some (.slice a1 l1.length c1):=q1 5 _ rfl;have y5:W.cell? ⟨w.heap.size+1,5,none⟩=some (.slice a2 l2.length c2):=q2 5 _ rfl;have hz0:=hb0.size;go_upto_region 3 with (first
  | (go_at_call 7;(with_reducible refine (HL1.out _ hb0).mono ?_);rintro x w1 ⟨rfl,hb1⟩;have rO:=below2 hb0 hb1;have y51:=kept hb1 y5)
  | (go_at_call 7;(with_reducible refine (HL2.out _ rO).mono ?_);rintro x w2 ⟨rfl,hb2⟩;have hbw2:=below2 rO hb2))
 have Tq:=below2 hb1 hb2;replace p3:=(Tq.block _ (lt_of_block p3)).trans p3;replace q1:=ai q1 Tq;replace q2:=ai q2 Tq;clear p1 p2 x5 y5 y51 hb1 hb2 rO Tq hb0 hz0 HL1 HL2;have HNW:=aa (Nz w2);go_upto_region 4 with (go_at_call 6;(with_reducible refine HNW.out.mono ?_);rintro e wN ⟨rfl,hN,hbN⟩)
 have hDN:=hN.tight;have hzN:=hbN.size;have Tf:=below2 hbw2 hbN;replace p3:=(hbN.block _ (lt_of_block p3)).trans p3;have r1:=ai q1 hbN;replace q2:=ai q2 hbN;have hEw:=TA.kept Tf;have hzB:=hbw2.size;clear hN hbN hbw2 HNW q1 TA;go_upto_region 5 with (first
  | ((with_reducible refine bz 35 _ w.heap.size 0 (ny d1 i1 st1 (.slice a1 l1.length c1)) (snV d1 i1 st1 (.slice a1 l1.length c1)) rfl _ underlying35 rfl (by kernel_rfl) r1 ?_ rfl ?_);exact rfl)
  | (go_at_call 10;(with_reducible refine (HM1.out _ hEw).mono ?_);rintro x w3 ⟨m1,b1,s1,y1,rfl,hm1,hb3⟩)
  | (refine oD 42 _ _ _ (snA d1 i1 st1 (.pointer (some ⟨m1,0,none⟩))) _ rfl rfl (by kernel_rfl) rfl (by kernel_rfl) ?_)
  | (refine jX 48 _ _ _ (rkA d1 i1 st1 y1) (w3.heap.size+1) (by simp) rfl rfl (by kernel_rfl) rfl (by kernel_rfl) ?_))
 refine aN (fun V1 hV=>?_);have hbV:Below w3.heap.size w3 V1:=by rw [hV.out];go_grown
 have hbv:=below2 hb3 hbV;have u1:V1.heap[w3.heap.size]?=some (.cells (snA d1 i1 st1 (.pointer (some ⟨m1,0,none⟩))) 42 (0,0)):=by rw [hV.out];exact (((bb (w3.heap.size+1) _).alloc (by simp) _).block _ (by simp)).trans (bP w3 _)
 have t1:V1.heap[w3.heap.size+1]?=some (.cells (rkA d1 i1 st1 y1) 48 (0,0)):=by rw [hV.out];exact iH _ _ _
 have mp1:=hm1.map.kept_w hbV;have ry1:=hm1.ref.keep hbV;have rl1:=hm1.rel;have fo1:=hm1.low;have hg1:SGood s1 20:=(hm1.sg47 Xy.out).mono (by omega);have hk1:s1.K.length<=20:=by have:=hm1.len;rw [aQ] at this;omega
 clear hV hm1 hbV hb3 hEw HM1 Xy;have hEw:=Tz.kept (below2 Tf hbv);have r2:=ai q2 hbv;have WV:=below2 Tf hbv;have hDA:=hDN.below hbv;have p3A:=(hbv.block _ (lt_of_block p3)).trans p3;have hzA:=hbv.size;clear hbv r1 q2 Tz p3;generalize w3.heap.size=X1 at *;go_upto_region 6 with (first
  | ((with_reducible refine bz 35 _ (w.heap.size+1) 0 (ny d2 i2 st2 (.slice a2 l2.length c2)) (snV d2 i2 st2 (.slice a2 l2.length c2)) rfl _ underlying35 rfl (by kernel_rfl) r2 ?_ rfl ?_);exact rfl)
  | (go_at_call 10;(with_reducible refine (HM2.out _ hEw).mono ?_);rintro x w4 ⟨m2,b2,s2,y2,rfl,hm2,hb4⟩)
  | (refine oD 42 _ _ _ (snA d2 i2 st2 (.pointer (some ⟨m2,0,none⟩))) _ rfl rfl (by kernel_rfl) rfl (by kernel_rfl) ?_)
  | (refine jX 48 _ _ _ (rkA d2 i2 st2 y2) (w4.heap.size+1) (by simp) rfl rfl (by kernel_rfl) rfl (by kernel_rfl) ?_))
 refine aN (fun V2 hV=>?_);have hbV:Below w4.heap.size w4 V2:=by rw [hV.out];go_grown
 have hbv:=below2 hb4 hbV;have u2:V2.heap[w4.heap.size]?=some (.cells (snA d2 i2 st2 (.pointer (some ⟨m2,0,none⟩))) 42 (0,0)):=by rw [hV.out];exact (((bb (w4.heap.size+1) _).alloc (by simp) _).block _ (by simp)).trans (bP w4 _)
 have t2:V2.heap[w4.heap.size+1]?=some (.cells (rkA d2 i2 st2 y2) 48 (0,0)):=by rw [hV.out];exact iH _ _ _
 have mp2:=hm2.map.kept_w hbV;have ry2:=hm2.ref.keep hbV;have rl2:=hm2.rel;have fo2:=hm2.low;have hg2:SGood s2 20:=(hm2.sg47 Xx.out).mono (by omega);have hk2:s2.K.length<=20:=by have:=hm2.len;rw [aQ] at this;omega
 clear hV hm2 hbV hb4 hEw HM2 Xx;generalize w4.heap.size=X2 at *;have hKB:KpBox V2 X1 X2 (w.heap.size+2) d1 i1 st1 m1 y1 d2 i2 st2 m2 y2 n1 n2:=⟨(hbv.block _ (lt_of_block u1)).trans u1,(hbv.block _ (lt_of_block t1)).trans t1,u2,t2,(hbv.block _ (lt_of_block p3A)).trans p3A,ry1.keep hbv,ry2⟩;have Ti:=below2 WV hbv;have SG:=mp1.kept_w hbv;have hDB:=hDA.below hbv;have hzV:=hbv.size;clear u1 t1 u2 t2 ry1 ry2 p3A mp1 WV r2 hbv;have Me:=fun (X:World)=>vP d1 i1 st1 y1 X;have Md:=fun (X:World)=>vP d2 i2 st2 y2 X;have g1:=blk_range hKB.t1;have g2:=blk_range hKB.t2
 cases hok1:Ap d1 i1 st1 with
 | false =>
   simp only [hok1] at Me;have HR1:=aa Me;clear Me Md hok1 hKB hDB hDA hDN SG mp2 rl1 rl2 fo1 fo2 hg1 hg2 hk1 hk2;go_wp2_with (first
    | ((with_reducible refine bz 48 _ (X1+1) 0 (xP d1 i1 st1 y1) (.agg (rkA d1 i1 st1 y1)) rfl _ underlying48 rfl (by kernel_rfl) g1 ?_ rfl ?_);exact rfl)
    | (go_at_call 12;(with_reducible refine (HR1.out _).mono ?_);rintro x w5 ⟨rfl,hb5⟩;have g25:=ai g2 hb5)
    | (go_at_call 5;(with_reducible refine (HA.out _).mono ?_);rintro x w9 ⟨rfl,hb9⟩))
   go_ret;exact ⟨rfl,below2 (below2 Ti hb5) hb9⟩
 | true =>
 simp only [hok1] at Me;have HR1:=aa Me
 cases hok2:Ap d2 i2 st2 with
 | false =>
   simp only [hok2] at Md;have HR2:=aa Md;clear Me Md hok1 hok2 hKB hDB hDA hDN SG mp2 rl1 rl2 fo1 fo2 hg1 hg2 hk1 hk2;go_wp2_with (first
    | ((with_reducible refine bz 48 _ (X1+1) 0 (xP d1 i1 st1 y1) (.agg (rkA d1 i1 st1 y1)) rfl _ underlying48 rfl (by kernel_rfl) g1 ?_ rfl ?_);exact rfl)
    | (go_at_call 12;(with_reducible refine (HR1.out _).mono ?_);rintro x w5 ⟨rfl,hb5⟩;have g25:=ai g2 hb5)
    | ((with_reducible refine bz 48 _ (X2+1) 0 (xP d2 i2 st2 y2) (.agg (rkA d2 i2 st2 y2)) rfl _ underlying48 rfl (by kernel_rfl) g25 ?_ rfl ?_);exact rfl)
    | (go_at_call 12;(with_reducible refine (HR2.out _).mono ?_);rintro x w6 ⟨rfl,hb6⟩)
    | (go_at_call 5;(with_reducible refine (HA.out _).mono ?_);rintro x w9 ⟨rfl,hb9⟩))
   go_ret;exact ⟨rfl,below2 (below2 (below2 Ti hb5) hb6) hb9⟩
 | true =>
 simp only [hok2] at Md;have HR2:=aa Md;obtain ⟨d1',i1',rfl,rfl,hd1,hi1,hst1⟩:=GX hok1;obtain ⟨d2',i2',rfl,rfl,hd2,hi2,hst2⟩:=GX hok2;clear Me Md hok1 hok2;go_upto_region 8 with (first
  | ((with_reducible refine bz 48 _ (X1+1) 0 (xP d1' i1' st1 y1) (.agg (rkA d1' i1' st1 y1)) rfl _ underlying48 rfl (by kernel_rfl) g1 ?_ rfl ?_);exact rfl)
  | (go_at_call 12;(with_reducible refine (HR1.out _).mono ?_);rintro x w5 ⟨rfl,hb5⟩;have g25:=ai g2 hb5)
  | ((with_reducible refine bz 48 _ (X2+1) 0 (xP d2' i2' st2 y2) (.agg (rkA d2' i2' st2 y2)) rfl _ underlying48 rfl (by kernel_rfl) g25 ?_ rfl ?_);exact rfl)
  | (go_at_call 12;(with_reducible refine (HR2.out _).mono ?_);rintro x w6 ⟨rfl,hb6⟩))
 have La:=below2 hb5 hb6;have hK6:=hKB.below La;have hm1:=SG.kept_w La;have hm2:=mp2.kept_w La;have U6:=below2 Ti La;have hO6:OneDk w2.heap.size wN.heap.size w6.heap.size ⟨[],0,false⟩ w6:=⟨⟨_,(hDB.below La).mono fun q hq=>⟨hq.1,a8 hq.2⟩⟩,DInv.new,by have:=La.size;omega,aq _⟩;have hfo:∀ k,foot b2 s2.A k->wN.heap.size<=k/\k<w6.heap.size:=fun k hk=>by
  obtain ⟨es,cl,hh⟩:=hm2.maps hk;exact ⟨Nat.le_trans hzA (fo2 k hk),lt_of_block hh⟩
 have hB6:w2.heap.size<=w6.heap.size:=hO6.2.2.1;clear La hb5 hb6 g25 g1 g2 hKB SG mp2 Ti Tf hDB hDA hDN hzV fo1 fo2 hzA hzN HR1 HR2;have WN:=lX hg1 hk1;have UX:=lX hg2 hk2;have XW:=pX (st:=st1) hd1 hi1 WN;have XV:=pX (st:=st2) hd2 hi2 UX;have XQ:(dJ (ckB d1' i1' st1 (fV s1))).length<=1048590:=by
  rw [lF];exact qX (by omega)
 have hfr2:(dJ (ckB d2' i2' st2 (fV s2))).length<=1048590:=by
  rw [lF];exact qX (by omega)
 have HB1:=fun (X:World) (h:MpIn X m1 b1 s1)=>sK d1' i1' st1 X h hg1.inv hg1.nd (by have:=hg1.ctx;omega) (by have:=hg1.dead;omega) (by omega) hd1 hi1 hst1 (by omega);have HB2:=fun (X:World) (h:MpIn X m2 b2 s2)=>sK d2' i2' st2 X h hg2.inv hg2.nd (by have:=hg2.ctx;omega) (by have:=hg2.dead;omega) (by omega) hd2 hi2 hst2 (by omega);have PR:=aa (fun (X:World) (F:Nat->Prop) (D:DataW Unit) (S:DS) (hD:DkIn X F (w2.heap.size+1) S w2.heap.size D) (hK:Dy S (dJ (ckB d1' i1' st1 (fV s1))))=>uU hd1 hi1 hst1 hg1 hk1 X hD hK);have Vx:=aa (fun (X:World) (F:Nat->Prop) (D:DataW Unit) (S:DS) (hD:DkIn X F (w2.heap.size+1) S w2.heap.size D) (hK:Dy S (dJ (ckB d2' i2' st2 (fV s2))))=>uU hd2 hi2 hst2 hg2 hk2 X hD hK);have VT:y1.rm=⟨s1.ctx,bC s1,sortD s1.dead⟩:=by
  show (⟨y1.ctx,evsOf y1.K,y1.dead⟩:RM)=_;rw [show y1.ctx=s1.ctx from rl1.ctx,show evsOf y1.K=bC s1 from rl1.kept,show y1.dead=sortD s1.dead from rl1.dead]
 have VD:=aa (fun (X:World) (n:Nat) (bn:MB) (t:MS) (ht:MInv t) (hr:Rel t ⟨s1.ctx,bC s1,sortD s1.dead⟩) (hdl:t.dead.length<=s1.dead.length) (hs:∀ x∈t.K,EvSmall x.1) (hn:MpIn X n bn t) (hI:RMIn X y1)=>Jl d1' i1' st1 (m:=n) (b:=bn) (t:=t) X hn hI (fun X hn hI=>ED (m:=n) (b:=bn) (s:=t) (y:=y1) (TZ ht (by rw [VT];exact hr) (by have h1:t.ctx=s1.ctx:=hr.ctx.symm;rw [h1];have:=hg1.ctx;omega) (by have:=hg1.dead;omega) hs) X hn hI));have VS:y2.rm=⟨s2.ctx,bC s2,sortD s2.dead⟩:=by
  show (⟨y2.ctx,evsOf y2.K,y2.dead⟩:RM)=_;rw [show y2.ctx=s2.ctx from rl2.ctx,show evsOf y2.K=bC s2 from rl2.kept,show y2.dead=sortD s2.dead from rl2.dead]
 have VC:=aa (fun (X:World) (n:Nat) (bn:MB) (t:MS) (ht:MInv t) (hr:Rel t ⟨s2.ctx,bC s2,sortD s2.dead⟩) (hdl:t.dead.length<=s2.dead.length) (hs:∀ x∈t.K,EvSmall x.1) (hn:MpIn X n bn t) (hI:RMIn X y2)=>Jl d2' i2' st2 (m:=n) (b:=bn) (t:=t) X hn hI (fun X hn hI=>ED (m:=n) (b:=bn) (s:=t) (y:=y2) (TZ ht (by rw [VS];exact hr) (by have h1:t.ctx=s2.ctx:=hr.ctx.symm;rw [h1];have:=hg2.ctx;omega) (by have:=hg2.dead;omega) hs) X hn hI));generalize dJ (ckB d1' i1' st1 (fV s1))=fb1 at *;generalize dJ (ckB d2' i2' st2 (fV s2))=fb2 at *;have HB2:=aa HB2;obtain ⟨F,D,hD,hF,hT,hNx⟩:=hO6.opened;have HW0:=sJ (B:=w2.heap.size) (dv:=d1') (ic:=i1') (st:=st1) (pv:=.pointer (some ⟨m1,0,none⟩)) (l:=fb1) w6 hD DInv.new hF hB6 (by omega) (fun X hX=>HB1 X (hm1.kept_w hX));have hkn:=Qw fb1 (by omega);rw [hkn] at HW0;have WH:DInv (ckD fb1 0):=by have:=DInv.new.layS fb1;rwa [hkn] at this
 have HW1:=aa HW0;have HNx:=aa hNx;have HI1:=aa WH;have HF:=aa hF;have r6:=blk_range hK6.s1;clear HW0 HB1 hm1 VT VS rl1 rl2 hg1 hg2 hk1 hk2 WN UX XW XV hd1 hi1 hst1 hd2 hi2 hst2 hO6 hD hF hNx WH hkn;go_upto_region 9 with (first
  | ((with_reducible refine bz 42 _ X1 0 (ny d1' i1' st1 (.pointer (some ⟨m1,0,none⟩))) (snV d1' i1' st1 (.pointer (some ⟨m1,0,none⟩))) rfl _ underlying42 rfl (by kernel_rfl) r6 ?_ rfl ?_);exact rfl)
  | (go_at_call 11;(with_reducible refine HW1.out.mono ?_);rintro x w7 ⟨rfl,hD7,hf7⟩))
 have hO7:=HNx.out _ _ HI1.out hD7 hf7;have hK7:=hK6.turn hf7 hT;have Wv:=hm2.frP hf7 hT hfo;have U5:=U6.trans (hf7.below U6.size (fun k hk=>Nat.le_trans hzB (HF.out k hk).1));clear hD7 hf7 hK6 hm2 hT HW1 HNx r6 U6 HF;obtain ⟨F,D,hD,hF,hT,hNx⟩:=hO7.opened;obtain ⟨arm,hAr⟩:∃ arm,((ckD fb1 0).rarm n1).1=ckD fb1 arm:=by unfold DS.rarm;split <;> exact ⟨_,rfl⟩
 have TS:=VF n1 hD;have WG:DInv (ckD fb1 arm):=by have:=HI1.out.arm' n1;rwa [hAr] at this
 rw [hAr] at TS;generalize ((ckD fb1 0).rarm n1).2=ce at TS;have HAr:=aa TS;have HNx:=aa hNx;have HI2:=aa WG;have HF:=aa hF;have r7:=blk_range hK7.z;have z0:w7.cell? ⟨w.heap.size+2,0,none⟩=some (.int .i64 n1):=r7 0 _ rfl;clear TS hAr hO7 hD hF hNx WG HI1 r7;go_upto_region 10 with (go_at_call 9;(with_reducible refine HAr.out.mono ?_);rintro x w8 ⟨rfl,hD8,hf8⟩)
 have hO8:=HNx.out _ _ HI2.out hD8 hf8;have hK8:=hK7.turn hf8 hT;have Wu:=Wv.frP hf8 hT hfo;have U4:=U5.trans (hf8.below U5.size (fun k hk=>Nat.le_trans hzB (HF.out k hk).1));clear hD8 hf8 hK7 Wv hT HAr HNx z0 U5 HF;obtain ⟨F,D,hD,hF,hT,hNx⟩:=hO8.opened;have HW0:=sJ (B:=w2.heap.size) (dv:=d2') (ic:=i2') (st:=st2) (pv:=.pointer (some ⟨m2,0,none⟩)) (l:=fb2) w8 hD HI2.out hF (Nat.le_trans hB6 hO8.2.2.2) (by omega) (fun X hX=>HB2.out X (Wu.kept_w hX));have hkp:=fun ks=>KG fb1 fb2 arm ks (by omega);have Td:=HI2.out.layS fb2;obtain ⟨S3,e3,hS3⟩:∃ S3 e3,layS (ckD fb1 arm) fb2=(S3,e3):=⟨_,_,rfl⟩;rw [hS3] at HW0 Td;simp only [hS3] at hkp;simp only at HW0 Td;have HW2:=aa HW0;have HNx:=aa hNx;have HI3:=aa Td;have HF:=aa hF;have HKP:=aa hkp;have r8:=blk_range hK8.s2;clear HW0 hO8 hD hF hNx Td HI2 Wu hS3 hkp HB2 hfo hB6 XQ hfr2;go_upto_region 11 with (first
  | ((with_reducible refine bz 42 _ X2 0 (ny d2' i2' st2 (.pointer (some ⟨m2,0,none⟩))) (snV d2' i2' st2 (.pointer (some ⟨m2,0,none⟩))) rfl _ underlying42 rfl (by kernel_rfl) r8 ?_ rfl ?_);exact rfl)
  | (go_at_call 11;(with_reducible refine HW2.out.mono ?_);rintro x w9 ⟨rfl,hD9,hf9⟩))
 have hO9:=HNx.out _ _ HI3.out hD9 hf9;have hK9:=hK8.turn hf9 hT;have U3:=U4.trans (hf9.below U4.size (fun k hk=>Nat.le_trans hzB (HF.out k hk).1));clear hD9 hf9 hK8 hT HW2 HNx r8 U4 HF;have r9:=blk_range hK9.z;have z1:w9.cell? ⟨w.heap.size+2,1,none⟩=some (.int .i64 n2):=r9 1 _ rfl;obtain ⟨F,D,hD,hF,hT,hNx⟩:=hO9.opened;have hal:Below w9.heap.size w9 (w9.alloc (.cells #[.string bW,.int .i64 n2,.string dB,.int .i64 n2] 61)):=(bb _ _).alloc (aq _) _;have hks:CellsIn (w9.alloc (.cells #[.string bW,.int .i64 n2,.string dB,.int .i64 n2] 61)) (some ⟨w9.heap.size,0,none⟩) (kcs [(bW,n2),(dB,n2)]):=ba ⟨_,_,rfl,fun j v hv=>by rw [av,World.cell?_alloc_new];simpa [kcs] using hv⟩;have HCr:Hid (Calls prog 16 #[.pointer (some ⟨w2.heap.size+1,0,none⟩),.slice (some ⟨w9.heap.size,0,none⟩) 2 2] (w9.alloc (.cells #[.string bW,.int .i64 n2,.string dB,.int .i64 n2] 61)) fun e w'=>e=.returned (.tuple #[])/\DkIn w' F (w2.heap.size+1) (S3.crash [(bW,n2),(dB,n2)]) w2.heap.size D/\Fr F (w9.alloc (.cells #[.string bW,.int .i64 n2,.string dB,.int .i64 n2] 61)) w'):=aa (Fe (ak:=some ⟨w9.heap.size,0,none⟩) (ck:=2) [(bW,n2),(dB,n2)] (hD.below hal) HI3.out (show 2<=1048576 by decide) (fun p hp=>by
  have hs:bW.size<=maxLen/\dB.size<=maxLen:=by decide
  rcases List.mem_cons.1 hp with rfl | hp
  ·exact ⟨hs.1,hn2⟩
  ·rcases List.mem_cons.1 hp with rfl | hp
   ·exact ⟨hs.2,hn2⟩
   ·cases hp) hks)
 have HNx:=aa hNx;have HF:=aa hF;have XD:=hal.size;clear hO9 hD hF hNx hks r9;go_upto_region 12 with (first
  | (refine Great.wpList_buildTo rfl 61 _ rfl _ rfl #[.string bW,.int .i64 n2] (by kernel_rfl) ?_)
  | (refine Great.wpList_buildTo rfl 61 _ rfl _ rfl #[.string dB,.int .i64 n2] (by kernel_rfl) ?_)
  | (refine xJ rfl 62 61 _ _ rfl #[.string bW,.int .i64 n2] #[.string dB,.int .i64 n2] 2 rfl rfl rfl rfl (by decide) (by decide) underlying62 (by kernel_rfl) (by kernel_rfl) #[.string bW,.int .i64 n2,.string dB,.int .i64 n2] rfl ?_)
  | (go_at_call 16;(with_reducible refine HCr.out.mono ?_);rintro x w10 ⟨rfl,Xl,KR⟩))
 have XZ:=HNx.out _ _ (HI3.out.crash [(bW,n2),(dB,n2)]) ⟨_,(Xl.mono fun k hk=>a8 hk)⟩ ((Fr.of_below hal).again KR);have hK10:=hK9.turn ((Fr.of_below hal).again KR) hT;have Nc:=U3.trans (((Fr.of_below (S:=F) hal).again KR).below U3.size (fun k hk=>Nat.le_trans hzB (HF.out k hk).1));clear Xl KR hK9 hT HCr HNx U3 HF z1 hal XD HI3;obtain ⟨⟨D11,O4⟩,-,-,-⟩:=XZ;rcases HKP.out [(bW,n2),(dB,n2)] with ⟨he3,hkh⟩ | ⟨he3,hkh⟩
 ·subst he3
  have HRd:=aa (Vx.out _ _ _ _ O4 hkh);clear O4 hkh PR Vx HKP;go_upto_region 13 with (first
   | (go_at_call 17;(with_reducible refine HRd.out.mono ?_);rintro x w11 ⟨⟨n,bn,t,rfl,QM,hti,htr,htd,hts⟩,QY⟩)
   | (refine bK 42 _ _ _ (snA d2' i2' st2 (.pointer (some ⟨n,0,none⟩))) rfl rfl (by kernel_rfl) rfl (by kernel_rfl) ?_))
  refine aN (fun V9 hV=>?_);have hbv:Below w11.heap.size w11 V9:=by rw [hV.out];exact (bb _ _).alloc (aq _) _
  have hS9:V9.rangeAt w11.heap.size 0 (ny d2' i2' st2 (.pointer (some ⟨n,0,none⟩))):=by rw [hV.out];exact yQ _ _ _ _ _ _
  have hb9:=below2 QY hbv;have hT9:=ai (blk_range hK10.t2) hb9;have QC:=hK10.y2.keep hb9;have QV:=aa (below2 Nc hb9);have HIs:=aa (VC.out V9 n bn t hti htr htd hts (QM.kept_w hbv) QC);clear hV hbv hb9 QY Nc hK10 QC QM hti htr htd hts VD VC HRd;generalize w11.heap.size=X9 at *;go_wp2_with (first
   | ((with_reducible refine bz 42 _ X9 0 (ny d2' i2' st2 (.pointer (some ⟨n,0,none⟩))) (snV d2' i2' st2 (.pointer (some ⟨n,0,none⟩))) rfl _ underlying42 rfl (by kernel_rfl) hS9 ?_ rfl ?_);exact rfl)
   | ((with_reducible refine bz 48 _ (X2+1) 0 (xP d2' i2' st2 y2) (.agg (rkA d2' i2' st2 y2)) rfl _ underlying48 rfl (by kernel_rfl) hT9 ?_ rfl ?_);exact rfl)
   | (go_at_call 18;(with_reducible refine HIs.out.mono ?_);rintro x w13 ⟨rfl,Lc⟩)
   | (go_at_call 5;(with_reducible refine (HA.out _).mono ?_);rintro x w14 ⟨rfl,Va⟩))
  go_ret;exact ⟨rfl,below2 QV.out (below2 Lc Va)⟩
 ·subst he3
  have HRd:=aa (PR.out _ _ _ _ O4 hkh);clear O4 hkh PR Vx HKP;go_upto_region 13 with (first
   | (go_at_call 17;(with_reducible refine HRd.out.mono ?_);rintro x w11 ⟨⟨n,bn,t,rfl,QM,hti,htr,htd,hts⟩,QY⟩)
   | (refine bK 42 _ _ _ (snA d1' i1' st1 (.pointer (some ⟨n,0,none⟩))) rfl rfl (by kernel_rfl) rfl (by kernel_rfl) ?_))
  refine aN (fun V9 hV=>?_);have hbv:Below w11.heap.size w11 V9:=by rw [hV.out];exact (bb _ _).alloc (aq _) _
  have hS9:V9.rangeAt w11.heap.size 0 (ny d1' i1' st1 (.pointer (some ⟨n,0,none⟩))):=by rw [hV.out];exact yQ _ _ _ _ _ _
  have hb9:=below2 QY hbv;have hT9:=ai (blk_range hK10.t1) hb9;have QC:=hK10.y1.keep hb9;have QV:=aa (below2 Nc hb9);have HIs:=aa (VD.out V9 n bn t hti htr htd hts (QM.kept_w hbv) QC);clear hV hbv hb9 QY Nc hK10 QC QM hti htr htd hts VD VC HRd;generalize w11.heap.size=X9 at *;go_wp2_with (first
   | ((with_reducible refine bz 42 _ X9 0 (ny d1' i1' st1 (.pointer (some ⟨n,0,none⟩))) (snV d1' i1' st1 (.pointer (some ⟨n,0,none⟩))) rfl _ underlying42 rfl (by kernel_rfl) hS9 ?_ rfl ?_);exact rfl)
   | ((with_reducible refine bz 48 _ (X1+1) 0 (xP d1' i1' st1 y1) (.agg (rkA d1' i1' st1 y1)) rfl _ underlying48 rfl (by kernel_rfl) hT9 ?_ rfl ?_);exact rfl)
   | (go_at_call 18;(with_reducible refine HIs.out.mono ?_);rintro x w13 ⟨rfl,Lc⟩)
   | (go_at_call 5;(with_reducible refine (HA.out _).mono ?_);rintro x w14 ⟨rfl,Va⟩))
  go_ret;exact ⟨rfl,below2 QV.out (below2 Lc Va)⟩
end Go.Proofs.YthphepeniaemoaaGreat
