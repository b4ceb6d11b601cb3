/- What the disk's blocks are not: numbers side by side, blocks of another type; events and maps beside a disk that turns. Conditions: as in the text. -/
import Derived.Test.YthphepeniaemoaaGreatDIsD
import Derived.Test.YthphepeniaemoaaGreatRefE
import Derived.Test.YthphepeniaemoaaGreatIsB
import Derived.Test.YthphepeniaemoaaGreatCkR
import Derived.Test.YthphepeniaemoaaGreatTrod
import Derived.Test.YthphepeniaemoaaGreatCkAw
import Derived.Test.YthphepeniaemoaaGreatCkN
set_option linter.unusedSimpArgs false
set_option linter.unusedVariables false
set_option linter.unnecessarySimpa false
set_option maxHeartbeats 16000000
set_option maxRecDepth 100000
open Go.Proofs.Tryz
namespace Go.Proofs.YthphepeniaemoaaGreat
open Go.RowKit
section
variable {F:Nat->Prop} {d:Nat} {S:DS} {b:Nat} {D:DataW Unit} {w w':World}
/-- no two numbers lie side by side -/
def Dj (w:World) (k:Nat):Prop:=∀ o x y,w.cell? ⟨k,o,none⟩=some (.int .i64 x)->w.cell? ⟨k,o+1,none⟩≠some (.int .i64 y)
theorem DkIn.noPair (h:DkIn w F d S b D):∀ k,Ex w F d b D k->Dj w k:=by
 rintro k ⟨_,_,hk | hk | ⟨s,hk⟩⟩ o x y h1 h2
 ·subst hk
  simp only [World.cell?,show w.heap[k]?=_ from h.cells] at h1 h2;match o,h1,h2 with
  | 0,h1,_=>simp at h1
  | 1,_,h2=>simp at h2
  | o+2,_,h2=>simp at h2
 ·subst hk
  obtain ⟨es,cl,hb,_⟩:=h.own;simp [World.cell?,hb] at h1
 ·cases hg:bY S.f s with
  | none=>have:=h.files.none s hg;rw [this] at hk;cases hk
  | some f =>
    obtain ⟨fb,_,h3,a,c,h4,_⟩:=h.files.some s f hg;obtain rfl:fb=k:=by have:=h3.symm.trans hk;simp at this;omega
    simp only [World.cell?,h4] at h1 h2;match o,h1,h2 with
    | 0,h1,_=>simp at h1
    | o+1,_,h2=>simp at h2
/-- a block of another type is none of the disk's -/
theorem DkIn.other (h:DkIn w F d S b D) {k:Nat} {cur:Array Value} {e:TypeId} (hk:w.heap[k]?=some (.cells cur e (0,0))) (he:e≠71/\e≠116):¬ Ex w F d b D k:=by
 rintro ⟨_,_,h1 | h1 | ⟨s,h1⟩⟩
 ·subst h1
  have:=hk.symm.trans h.cells;simp only [Option.some.injEq,Obj.cells.injEq] at this;exact he.1 this.2.1
 ·subst h1
  obtain ⟨es,cl,hb,_⟩:=h.own;have:=hk.symm.trans hb;simp at this
 ·cases hg:bY S.f s with
  | none=>have:=h.files.none s hg;rw [this] at h1;cases h1
  | some f =>
    obtain ⟨fb,_,h3,a,c,h4,_⟩:=h.files.some s f hg;obtain rfl:fb=k:=by have:=h3.symm.trans h1;simp at this;omega
    have:=hk.symm.trans h4;simp only [Option.some.injEq,Obj.cells.injEq] at this;exact he.2 this.2.1
theorem DotsIn.frP {T:Nat->Prop} {a:Option Addr} {l:List Dot} (h:DotsIn w a l) (hf:Fr T w w') (hT:∀ k,T k->Dj w k):DotsIn w' a l:=by
 rcases h with h | ⟨A,off,h1,h2⟩
 ·exact bb h
 by_cases hne:l=[]
 ·exact bb hne
 have h0:0<l.length:=List.length_pos_iff.2 hne;have hA:¬ T A:=fun hA=>hT A hA _ _ _ (h2.dev 0 h0) (h2.inc 0 h0);have hkc:∀ o n,w.cell? ⟨A,o,none⟩=some (.int .i64 n)->w'.cell? ⟨A,o,none⟩=some (.int .i64 n):=fun o n hc=>hf.kept hc hA
 exact z135
theorem EvsIn.frP {T:Nat->Prop} {a:Option Addr} {ls:List EvIt} (h:EvsIn w a ls) (hf:Fr T w w') (hT:∀ k,T k->Dj w k):EvsIn w' a ls:=by
 refine ⟨h.rows.imp id fun ⟨A,off,h1,h2⟩=>⟨A,off,h1,fun i hi j v hv=>?_⟩,fun x hx=>(h.dots x hx).frP hf hT⟩;have hA:¬ T A:=fun hA=>hT A hA _ _ _ (h2 i hi 0 _ rfl) (h2 i hi 1 _ rfl);exact hf.kept (h2 i hi j v hv) hA
theorem RMIn.frP {T:Nat->Prop} {x:RMIt} (h:RMIn w x) (hf:Fr T w w') (hT:∀ k,T k->Dj w k):RMIn w' x :=
 ⟨h.ctx.frP hf hT,h.kept.frP hf hT,h.dead.frP hf hT,h.cc,h.cK,h.cd⟩
end
section
variable {H:Type} {enc:TypeId×Value->H} {w:World} {spare:Nat->Bool} {held:Bool}
open Go.ChangeShapes Go.WideShapes Go.ChangeAt
theorem JF {fuel:Nat} {cs:List Value} {x:DataW H×List MemPlace} (hsz:cs.length=6) (hf:DataW.trod enc prog w 0 spare held fuel 35 cs=some x) :
 ∃ (d i:Int) (s:Stamp) (a:Option Addr) (ls:List EvIt) (cap:Nat),cs=lU d i s (.slice a ls.length cap)/\EvsArg w a ls:=by
 match cs,hsz with
 | [c0,c1,c2,c3,c4,c5],_ =>
   obtain ⟨_,_,hD⟩:=bg underlying35 hf 0 _ rfl 1 (by kernel_rfl) [c0] rfl;obtain ⟨_,_,hI⟩:=bg underlying35 hf 1 _ rfl 1 (by kernel_rfl) [c1] rfl;obtain ⟨_,_,hS⟩:=bg underlying35 hf 2 _ rfl 3 (by kernel_rfl) [c2,c3,c4] rfl;obtain ⟨_,_,hL⟩:=bg underlying35 hf 3 _ rfl 1 (by kernel_rfl) [c5] rfl;obtain ⟨_,_,h2⟩:=bg underlying32 hS 0 _ rfl 1 (by kernel_rfl) [c2] rfl;obtain ⟨_,_,h3⟩:=bg underlying32 hS 1 _ rfl 1 (by kernel_rfl) [c3] rfl;obtain ⟨_,_,h4⟩:=bg underlying32 hS 2 _ rfl 1 (by kernel_rfl) [c4] rfl;obtain ⟨x0,e0,_,_⟩:=DataW.trod_int underlying3 hD;obtain ⟨x1,e1,_,_⟩:=DataW.trod_int underlying3 hI;obtain ⟨x2,e2,_,_⟩:=DataW.trod_int underlying3 h2;obtain ⟨x3,e3,_,_⟩:=DataW.trod_int underlying3 h3;obtain ⟨x4,e4,_,_⟩:=DataW.trod_int underlying3 h4;obtain ⟨a,ls,cap,e5,hE⟩:=P7 hL;simp only [List.cons.injEq,and_true] at e0 e1 e2 e3 e4 e5;subst e0 e1 e2 e3 e4 e5;exact ⟨x0,x1,⟨x2,x3,x4⟩,a,ls,cap,rfl,hE⟩
end
structure StIt where
 d:Int
 i:Int
 st:Stamp
 a:Option Addr
 ls:List EvIt
 cap:Nat
abbrev PG (x:StIt):List Value:=lU x.d x.i x.st (.slice x.a x.ls.length x.cap)
def flat6 (l:List StIt):List Value:=l.flatMap PG
theorem EL:∀ l:List StIt,(flat6 l).length=l.length * 6
 | []=>rfl
 | x :: l=>by
   have h:=EL l;unfold flat6 at h ⊢;rw [List.flatMap_cons,av,h];show 6+l.length * 6=(l.length+1) * 6;omega
theorem Ci:∀ (l:List StIt) (k:Nat),(flat6 l).drop (k * 6)=flat6 (l.drop k)
 | l,0=>by simp
 | [],k+1=>by simp [flat6]
 | x :: l,k+1=>by
   rw [List.drop_succ_cons,<- Ci l k,show (k+1) * 6=6+k * 6 by omega,<- List.drop_drop];congr 1
theorem QG {w:World} {a:Option Addr} {ls:List StIt} (h:CellsIn w a (flat6 ls)) {k:Nat} (hk:k<ls.length):∃ A off,a=some ⟨A,off,none⟩/\w.rangeAt A (off+k * 6) (PG ls[k]):=by
 rcases h with h | ⟨A,off,h1,h2⟩
 ·have:=congrArg List.length h
  rw [EL] at this;simp at this;omega
 ·refine ⟨A,off,h1,fun j v hv=>?_⟩
  have hj:j<6:=(List.getElem?_eq_some_iff.1 hv).1;have:=h2 (k * 6+j) v (by
   rw [<- List.getElem?_drop,Ci,List.drop_eq_getElem_cons hk];unfold flat6;rw [List.flatMap_cons,List.getElem?_append_left hj];exact hv)
  rwa [<- Nat.add_assoc] at this
def ints (l:List Int):List Value:=l.map fun n=>.int .i64 n
theorem Ew:∀ l:List Int,ints l=l.flatMap (fun n:Int=>[.int .i64 n])
 | []=>rfl
 | x :: l=>by
   have h:=Ew l;unfold ints at h ⊢;rw [List.map_cons,List.flatMap_cons,h];rfl
theorem ints_at {w:World} {a:Option Addr} {ls:List Int} (h:CellsIn w a (ints ls)) {k:Nat} (hk:k<ls.length):∃ A off,a=some ⟨A,off,none⟩/\w.cell? ⟨A,off+k,none⟩=some (.int .i64 ls[k]):=by
 rcases h with h | ⟨A,off,h1,h2⟩
 ·have:=congrArg List.length h
  simp [ints] at this;rw [this] at hk;simp at hk
 ·exact ⟨A,off,h1,h2 k _ (by simp [ints,hk])⟩
section
variable {H:Type} {enc:TypeId×Value->H} {w:World} {spare:Nat->Bool} {held:Bool}
open Go.ChangeShapes Go.WideShapes Go.ChangeAt
theorem Lt {r:Reach} {b0:Nat} {v:Value} {d:DataW H} {p:List MemPlace} (hv:Value.okWide prog w r b0 22 v) (h:DataW.Trod enc prog w 0 spare held 22 v d p) :
 ∃ (a:Option Addr) (ls:List StIt) (cap:Nat),v=.slice a ls.length cap/\CellsIn w a (flat6 ls)/\(∀ x∈ls,EvsArg w x.a x.ls)/\ls.length<=maxLen:=by
 obtain ⟨a,n,c,rfl⟩:=okWide_slice underlying22 hv;obtain ⟨fuel,hf⟩:=h;simp only [Value.cells] at hf;obtain ⟨a',ls,c',he,h2,h3,h4,_⟩:=open_list 22 35 underlying22 6 (by decide) (by kernel_rfl) PG (fun x=>EvsArg w x.a x.ls) (fun m cs x hl ht=>by
  obtain ⟨d,i,s,a,ls,cap,rfl,hE⟩:=JF hl ht;exact ⟨⟨d,i,s,a,ls,cap⟩,rfl,hE⟩) hf
 exact ⟨a',ls,c',by simpa using he,h2,h3,h4⟩
theorem QV {r:Reach} {b0:Nat} {v:Value} {d:DataW H} {p:List MemPlace} (hv:Value.okWide prog w r b0 23 v) (h:DataW.Trod enc prog w 0 spare held 23 v d p) :
 ∃ (a:Option Addr) (ls:List Int) (cap:Nat),v=.slice a ls.length cap/\CellsIn w a (ints ls)/\ls.length<=maxLen:=by
 obtain ⟨a,n,c,rfl⟩:=okWide_slice underlying23 hv;obtain ⟨fuel,hf⟩:=h;simp only [Value.cells] at hf;obtain ⟨a',ls,c',he,h2,_,h4,_⟩:=open_list 23 3 underlying23 1 (by decide) (by kernel_rfl) (fun n:Int=>[.int .i64 n]) (fun _=>True) (fun m cs x hl ht=>by
  obtain ⟨x0,e0,_,_⟩:=DataW.trod_int underlying3 ht;exact ⟨x0,e0,trivial⟩) hf
 refine ⟨a',ls,c',by simpa using he,?_,h4⟩;rw [Ew];exact h2
end
/-- both disks of the law: the program's at S, and the reference's at T in the box B -/
def BothDk (w0:World) (B:Nat) (S T:DS) (a:Option Addr) (l:List RF) (c:Nat) (wr:World):Prop :=
 (∃ D,DkIn wr (fun q=>w0.heap.size<=q) (w0.heap.size+1) S w0.heap.size D)/\DInv S/\B3 wr B 29 (.slice a l.length c) (.int .i64 T.arm) (.bool T.down)/\RFsIn wr a l/\l.length<=c/\bJ l=T.f/\Below w0.heap.size w0 wr/\w0.heap.size<=B
section
variable {w0 w w':World} {B:Nat} {S T:DS} {a:Option Addr} {l:List RF} {c:Nat}
theorem BothDk.below (h:BothDk w0 B S T a l c w) (hb:Below w.heap.size w w'):BothDk w0 B S T a l c w':=by
 obtain ⟨⟨D,h1⟩,h2,h3,h4,h5,h6,h7,h8⟩:=h;exact ⟨⟨D,h1.below hb⟩,h2,h3.below hb,h4.kept hb,h5,h6,h7.trans (hb.mono h7.size),h8⟩
/-- another one is put into the box -/
theorem BothDk.row {T0:DS} {a2:Option Addr} {l2:List RF} {c2:Nat} (h:BothDk w0 B S T0 a2 l2 c2 w) (hin:RFsIn w a l) (hc:l.length<=c) (hl:bJ l=T.f) :
 BothDk w0 B S T a l c (w.setRow B #[.slice a l.length c,.int .i64 T.arm,.bool T.down]):=by
 obtain ⟨⟨D,hD⟩,hi,h3,_,_,_,h7,h8⟩:=h;have hset:=lC w B #[.slice a l.length c,.int .i64 T.arm,.bool T.down];have hp:NoByte w B/\zF w B:=⟨h3.noByte ⟨trivial,trivial,trivial⟩,h3.noStr ⟨trivial,trivial,trivial⟩⟩;exact ⟨⟨D,(DkIn.fr hD.exact hset (fun q hq=>by subst hq;exact hp.1) (fun q hq e=>by subst e;exact hD.other h3 (by decide) hq)).mono fun q hq=>hq.1⟩,hi,h3.row _ _ _,hin.fr hset (fun q hq=>by subst hq;exact hp),hc,hl,dG h7 h8 _,h8⟩
/-- the program's disk alone: its blocks, and what holds behind a turn of it -/
theorem BothDk.opened (h:BothDk w0 B S T a l c w):∃ F D,DkIn w F (w0.heap.size+1) S w0.heap.size D/\(∀ k,F k->(w0.heap.size<=k/\k<w.heap.size)/\Dj w k)/\(∀ k cur e,w.heap[k]?=some (.cells cur e (0,0))->(e≠71/\e≠116)->¬ F k) /\
 ∀ S' w',DInv S'->(∃ D',DkIn w' (fun k=>F k\/w.heap.size<=k) (w0.heap.size+1) S' w0.heap.size D')->Fr F w w'->BothDk w0 B S' T a l c w':=by
 obtain ⟨⟨D,hD⟩,hi,h3,h4,h5,h6,h7,h8⟩:=h;refine ⟨_,D,hD.exact,fun k hk=>⟨⟨hk.1,hk.2.1⟩,hD.noPair k hk⟩,fun k cur e h1 h2=>hD.other h1 h2,fun S' w' hi' ⟨D',hD'⟩ hf=>⟨⟨D',hD'.mono fun k hk=>?_⟩,hi',h3.fr hf (hD.other h3 (by decide)),h4.fr hf (fun k hk=>hD.plain k hk),h5,h6,h7.trans (hf.below h7.size fun k hk=>hk.1),h8⟩⟩;rcases hk with hk | hk
 ·exact hk.1
 ·exact Nat.le_trans h7.size hk
end
theorem lawCkW_any (a:Option Addr) (ca:Nat) (ls:List StIt) (aa:Option Addr) (caa:Nat) (arms:List Int) (w:World) (hcs:CellsIn w a (flat6 ls)) (hst:∀ x∈ls,EvsArg w x.a x.ls) (hll:ls.length<=maxLen) (hci:CellsIn w aa (ints arms)) (hal:arms.length<=maxLen) :
 Calls prog 3 #[.slice a ls.length ca,.slice aa arms.length caa] w fun x w'=>x=.returned (.bool true)/\Below w.heap.size w w':=by
 have HA:=aq Jk;unfold maxLen at hll hal;by_cases h5:5<ls.length
 ·have d1:=aR h5
  have d2:decide ((5:Int)<(ls.length:Int))=true:=aR (by omega);go_enter func3,ntmps3;go_wp2_with (go_at_call 5;(with_reducible refine (HA.out _).mono ?_);rintro x w2 ⟨rfl,hb2⟩)
  go_ret;exact ⟨rfl,hb2⟩
 have d1:=aM h5;have d2:decide ((5:Int)<(ls.length:Int))=false:=aM (by omega);have HNW:=aq (MZ w);have hl5:ls.length<=5:=by omega
 clear h5;go_enter func3,ntmps3;go_wp2_with (go_at_call 6;(with_reducible refine HNW.out.mono ?_);rintro e wN ⟨rfl,hN,hbN⟩)
 have hNz:=hbN.size;go_loopw [7] (fun i wr=>∃ (k:Nat) (S:DS) (a2:Option Addr) (l2:List RF) (c2:Nat),i=.int .i64 k/\k<=ls.length/\BothDk w wN.heap.size S S a2 l2 c2 wr) (fun i _=>ls.length - (intOf i).toNat)
 case atStart=>exact ⟨0,⟨[],0,false⟩,none,[],0,rfl,Nat.zero_le _,⟨_,hN.below ((bh _ _).alloc (ar _) _)⟩,DInv.new,aY _ _,⟨bb rfl,fun g hg=>(nomatch hg)⟩,ar _,rfl,hbN.alloc hbN.size _,hNz⟩
 case round =>
  obtain ⟨k,S,a2,l2,c2,rfl,hk,hBD⟩:=hrel;clear hN hbN d1 d2;by_cases hlt:k<ls.length
  ·obtain ⟨A,off,rfl,hr⟩:=QG hcs hlt
   have hev:=hst _ (List.getElem_mem hlt);have HLT:=aq hlt;generalize ls[k]=x at hr hev;obtain ⟨d0,i0,st,ax,lx,cx⟩:=x;simp only at hr hev;have hbw:=hBD.2.2.2.2.2.2.1;have hrw:=ai hr hbw;have r5:wr.cell? ⟨A,off+k * 6+5,none⟩=some (.slice ax lx.length cx):=hrw 5 _ rfl;have HL0:∀ X,Below w.heap.size w X->Calls prog 7 #[.slice ax lx.length cx,.int .i64 12] X fun x w'=>x=.returned (.bool (lightAll 12 (evsOf lx)))/\Below X.heap.size X w':=fun X hX=>Gp ax cx 12 lx X (by decide) hev.len (hev.evs.kept hX) (fun x hx=>⟨(hev.each x hx).over,(hev.each x hx).name,(hev.each x hx).domain,(hev.each x hx).path,(hev.each x hx).value⟩);have hEi:=hev.evs
   cases hli:lightAll 12 (evsOf lx) with
   | false =>
     simp only [hli] at HL0;have HL:=aq HL0;have HB:=aq hbw;clear HL0 hli hev hEi hr hrw hBD;go_wp2_with (first
      | (go_at_call 7;(with_reducible refine (HL.out _ hbw).mono ?_);rintro x w1 ⟨rfl,hb1⟩)
      | (go_at_call 5;(with_reducible refine (HA.out _).mono ?_);rintro x w2 ⟨rfl,hb2⟩))
     go_ret;exact ⟨rfl,HB.out.trans ((below2 hb1 hb2).mono HB.out.size)⟩
   | true =>
     obtain ⟨hls,hsl⟩:=light_evs hli;simp only [hli] at HL0;have HL:=aq HL0;have HM:=aq (fun (X:World) (h:EvsIn X ax lx)=>Oc d0 i0 st ax cx lx X (by omega) h hsl);have HSL:=aq hsl;clear HL0 hli hsl hev;go_upto_region 10 with (go_at_call 7;(with_reducible refine (HL.out _ hbw).mono ?_);rintro x w1 ⟨rfl,hb1⟩)
     have hB1:=hBD.below hb1;clear hBD hb1 HL hbw hrw r5;go_upto_if 38 with fail
     go_cut [] (fun wx=>∃ (S:DS) (a2:Option Addr) (l2:List RF) (c2:Nat),BothDk w wN.heap.size S S a2 l2 c2 wx)
     case first =>
      by_cases hq:k<arms.length
      ·have d1:=aR hq
       have d2:decide ((k:Int)<(arms.length:Int))=true:=aR (by omega);obtain ⟨AA,oa,rfl,hcl⟩:=ints_at hci hq;generalize arms[k]=n at hcl;have hRA:=aq (fun (X:World) (h:RFsIn X a2 l2)=>Sj (S:=S) a2 c2 l2 n hB1.2.2.2.2.1 hB1.2.2.2.2.2.1 h);have HAd:=aq (fun (X:World) (D:DataW Unit) (F:Nat->Prop) (h:DkIn X F (w.heap.size+1) S w.heap.size D)=>Vq n h);have hi1:DInv (S.rarm n).1:=hB1.2.1.arm' n;obtain ⟨S1,c1,hS1⟩:∃ S1 c1,S.rarm n=(S1,c1):=⟨_,_,rfl⟩;rw [hS1] at hRA HAd hi1;simp only at hRA HAd hi1;have hcc:(c1 != c1)=false:=by simp
       have HI1:=aq hi1;clear hS1 hi1;go_upto_region 11 with fail
       refine aI (fun V hV=>?_);have hbV:Below w1.heap.size w1 V.drew:=by rw [hV.out];go_grown
       have hBV:=hB1.below hbV;clear hV hbV hB1;have HZ:=aq hBV;obtain ⟨⟨D0,hDV⟩,hiV,hX,BU,XR,hlV,KQ,hBz⟩:=hBV;have hxl:=hX.lt;have vR:V.drew.rangeAt wN.heap.size 0 [.slice a2 l2.length c2,.int .i64 S.arm,.bool S.down]:=hX.range;have vA:=kept KQ hcl;refine wp_region_noPanic ?_;refine wp_region_held_drew (S:=fun W'=>Below V.drew.heap.size V.drew W') (by kernel_rfl) (bh _ _) (fun hHeld=>?_);refine tH 0 40 rfl (yieldsIf_load_mid (by rfl) 29 _ rfl wN.heap.size 0 rfl [.slice a2 l2.length c2,.int .i64 S.arm,.bool S.down] _ (fun X h=>ai vR h) underlying29 rfl (by kernel_rfl)) ?_;try simp only [pS]
       refine tH (v:=?_) 1 41 rfl (bb ⟨by rfl,?_⟩) ?_
       case refine_2 => exact z61
       try simp only [pS]
       refine tH (v:=?_) 2 42 rfl (bb ⟨by rfl,?_⟩) ?_
       case refine_2 => exact z61
       try simp only [pS]
       refine tH (v:=?_) 3 43 rfl (bb ⟨by rfl,?_⟩) ?_
       case refine_2 => exact z61
       try simp only [pS]
       refine tH (v:=?_) 4 44 rfl (bb ⟨by rfl,?_⟩) ?_
       case refine_2=>(intro w9 hSw;have s9:=kept hSw vA;go_simp;try with_reducible rfl)
       try simp only [pS]
       refine wpAnyH_ready (rs:=[5,9]) (by kernel_rfl) (by simp) ?_;refine AllReadyH.cons (o:=⟨some 45,_,_,_,_,_⟩) rfl (fun K hK=>?_) (AllReadyH.cons (o:=⟨some 8,_,_,_,_,_⟩) rfl (fun K hK=>?_) AllReadyH.nil);focus
           go_simp;go_at_call 8;(with_reducible refine (hRA.out _ (BU.kept hHeld)).mono ?_)
           rintro v w5 ⟨a5,l5,c5,rfl,vH,hc5,hl5,hb5⟩;go_simp;have hNext:=hHeld.trans (hb5.mono hHeld.size);refine hK.out _ _ hNext (fun ah=>?_);clear hK K hHeld;have hHeld:=hNext;clear ah hNext;try simp only [pS]
           refine tH (v:=?_) 6 39 rfl (bb ⟨by rfl,?_⟩) ?_
           case refine_2 => exact z61
           try simp only [pS]
           refine tH (v:=?_) 7 46 rfl (bb ⟨by rfl,?_⟩) ?_
           case refine_2 => exact z61
           try simp only [pS]
           refine tH (v:=?_) 8 47 rfl (bb ⟨by rfl,?_⟩) ?_
           case refine_2 => exact z61
           try simp only [pS]
           refine rH 9 8 rfl fun K hK=>?_;go_simp;have hNext:=hHeld.alloc hHeld.size (.cells #[.slice none 0 0,.int .i64 0,.bool false] 29);refine hK.out _ _ hNext (fun ah=>?_);clear hK K hHeld;have hHeld:=hNext;clear ah hNext;try simp only [pS]
           have hgz:V.drew.heap.size<=w5.heap.size:=hb5.size;have hq0:B3 (w5.alloc (.cells #[.slice none 0 0,.int .i64 0,.bool false] 29)) w5.heap.size 29 (.slice none 0 0) (.int .i64 0) (.bool false):=aY _ _;refine wpAnyH_ready (rs:=[10]) (by kernel_rfl) (by simp) ?_;refine AllReadyH.cons (o:=⟨none,_,_,_,_,_⟩) rfl (fun K hK=>?_) AllReadyH.nil;refine dM (by rfl) 29 _ _ rfl (w5.heap.size) #[.slice a5 l5.length c5,.int .i64 S1.arm,.bool S1.down] rfl rfl 29 _ hq0 (by kernel_rfl) rfl (by kernel_rfl) ?_;have hNext:=below_setRow hHeld hgz #[.slice a5 l5.length c5,.int .i64 S1.arm,.bool S1.down];refine hK.out _ _ hNext (fun ah=>?_);clear hK K hHeld;have hHeld:=hNext;clear ah hNext;try simp only [pS]
           refine tH (v:=?_) 11 9 rfl (bb ⟨by rfl,?_⟩) ?_
           case refine_2 => exact z61
           try simp only [pS]
           refine wpAnyH_done (by kernel_rfl) ?_ _;refine NoPanic.normal ?_;obtain ⟨X,hX9⟩:∃ X,X=(w5.alloc (.cells #[.slice none 0 0,.int .i64 0,.bool false] 29)).setRow (w5.heap.size) #[.slice a5 l5.length c5,.int .i64 S1.arm,.bool S1.down]:=⟨_,rfl⟩;rw [<- hX9] at hHeld ⊢;have hY:B3 X (w5.heap.size) 29 (.slice a5 l5.length c5) (.int .i64 S1.arm) (.bool S1.down):=by rw [hX9];exact B3.row hq0 _ _ _
           have xk:RFsIn X a5 l5:=by rw [hX9];exact RFsIn.fr (vH.kept ((bh _ _).alloc (ar _) _)) (lC _ _ _) (fun q hq=>by subst hq;exact ⟨B3.noByte hq0 ⟨trivial,trivial,trivial⟩,B3.noStr hq0 ⟨trivial,trivial,trivial⟩⟩)
           have hBX:=HZ.out.below hHeld;have hbX:=hBX.2.2.2.2.2.2.1;have HL5:=aq hl5;generalize w5.heap.size=G at hY ⊢;clear hX9 hq0 hHeld hgz vH hb5 hl5 vR vA hX BU hDV HZ;obtain ⟨z0,z1,z2,z3,z4,z5⟩:=hY.cells;have hx3:=hBX.2.2.1;go_upto_region 13 with (refine wpList_store_row rfl 29 _ _ rfl wN.heap.size #[.slice a5 l5.length c5,.int .i64 S1.arm,.bool S1.down] rfl rfl 29 _ hx3 (by kernel_rfl) rfl (by kernel_rfl) ?_)
           clear z0 z1 z2 z3 z4 z5 hx3 hY;have hBY:=hBX.row (T:=S1) xk hc5 HL5.out;have Xl:=kept hBY.2.2.2.2.2.2.1 hcl;clear hBX xk hbX;generalize X.setRow wN.heap.size #[.slice a5 l5.length c5,.int .i64 S1.arm,.bool S1.down]=Y at *;obtain ⟨F,D6,hD6,-,-,hNx⟩:=hBY.opened;have HNx:=aq hNx;clear hNx hBY;go_wp2_with (go_at_call 9;(with_reducible refine (HAd.out _ _ _ hD6).mono ?_);rintro x w8 ⟨rfl,hD8,hf8⟩)
           go_meet;exact ⟨S1,a5,l5,c5,HNx.out _ _ HI1.out hD8 hf8⟩
       focus
           go_simp;have hNext:=hHeld.alloc hHeld.size (.cells #[.slice none 0 0,.int .i64 0,.bool false] 29);refine hK.out _ _ hNext (fun ah=>?_);clear hK K hHeld;have hHeld:=hNext;clear ah hNext;try simp only [pS]
           replace hHeld:Below V.drew.heap.size V.drew (V.alloc (.cells #[.slice none 0 0,.int .i64 0,.bool false] 29)).drew:=hHeld;refine rH 5 45 rfl fun K hK=>?_;go_simp;go_at_call 8;(with_reducible refine (hRA.out _ (BU.kept hHeld)).mono ?_)
           rintro v w5 ⟨a5,l5,c5,rfl,vH,hc5,hl5,hb5⟩;go_simp;have hNext:=hHeld.trans (hb5.mono hHeld.size);refine hK.out _ _ hNext (fun ah=>?_);clear hK K hHeld;have hHeld:=hNext;clear ah hNext;try simp only [pS]
           refine tH (v:=?_) 6 39 rfl (bb ⟨by rfl,?_⟩) ?_
           case refine_2 => exact z61
           try simp only [pS]
           refine tH (v:=?_) 7 46 rfl (bb ⟨by rfl,?_⟩) ?_
           case refine_2 => exact z61
           try simp only [pS]
           refine tH (v:=?_) 8 47 rfl (bb ⟨by rfl,?_⟩) ?_
           case refine_2 => exact z61
           try simp only [pS]
           have hgz:V.drew.heap.size<=V.heap.size:=ar _;have hq0:B3 w5 V.heap.size 29 (.slice none 0 0) (.int .i64 0) (.bool false):=(hb5.block V.heap.size (by show V.heap.size<(V.heap.push _).size;simp)).trans (aY V _);refine wpAnyH_ready (rs:=[10]) (by kernel_rfl) (by simp) ?_;refine AllReadyH.cons (o:=⟨none,_,_,_,_,_⟩) rfl (fun K hK=>?_) AllReadyH.nil;refine dM (by rfl) 29 _ _ rfl (V.heap.size) #[.slice a5 l5.length c5,.int .i64 S1.arm,.bool S1.down] rfl rfl 29 _ hq0 (by kernel_rfl) rfl (by kernel_rfl) ?_;have hNext:=below_setRow hHeld hgz #[.slice a5 l5.length c5,.int .i64 S1.arm,.bool S1.down];refine hK.out _ _ hNext (fun ah=>?_);clear hK K hHeld;have hHeld:=hNext;clear ah hNext;try simp only [pS]
           refine tH (v:=?_) 11 9 rfl (bb ⟨by rfl,?_⟩) ?_
           case refine_2 => exact z61
           try simp only [pS]
           refine wpAnyH_done (by kernel_rfl) ?_ _;refine NoPanic.normal ?_;obtain ⟨X,hX9⟩:∃ X,X=(w5).setRow (V.heap.size) #[.slice a5 l5.length c5,.int .i64 S1.arm,.bool S1.down]:=⟨_,rfl⟩;rw [<- hX9] at hHeld ⊢;have hY:B3 X (V.heap.size) 29 (.slice a5 l5.length c5) (.int .i64 S1.arm) (.bool S1.down):=by rw [hX9];exact B3.row hq0 _ _ _
           have xk:RFsIn X a5 l5:=by rw [hX9];exact RFsIn.fr (vH) (lC _ _ _) (fun q hq=>by subst hq;exact ⟨B3.noByte hq0 ⟨trivial,trivial,trivial⟩,B3.noStr hq0 ⟨trivial,trivial,trivial⟩⟩)
           have hBX:=HZ.out.below hHeld;have hbX:=hBX.2.2.2.2.2.2.1;have HL5:=aq hl5;generalize V.heap.size=G at hY ⊢;clear hX9 hq0 hHeld hgz vH hb5 hl5 vR vA hX BU hDV HZ;obtain ⟨z0,z1,z2,z3,z4,z5⟩:=hY.cells;have hx3:=hBX.2.2.1;go_upto_region 13 with (refine wpList_store_row rfl 29 _ _ rfl wN.heap.size #[.slice a5 l5.length c5,.int .i64 S1.arm,.bool S1.down] rfl rfl 29 _ hx3 (by kernel_rfl) rfl (by kernel_rfl) ?_)
           clear z0 z1 z2 z3 z4 z5 hx3 hY;have hBY:=hBX.row (T:=S1) xk hc5 HL5.out;have Xl:=kept hBY.2.2.2.2.2.2.1 hcl;clear hBX xk hbX;generalize X.setRow wN.heap.size #[.slice a5 l5.length c5,.int .i64 S1.arm,.bool S1.down]=Y at *;obtain ⟨F,D6,hD6,-,-,hNx⟩:=hBY.opened;have HNx:=aq hNx;clear hNx hBY;go_wp2_with (go_at_call 9;(with_reducible refine (HAd.out _ _ _ hD6).mono ?_);rintro x w8 ⟨rfl,hD8,hf8⟩)
           go_meet;exact ⟨S1,a5,l5,c5,HNx.out _ _ HI1.out hD8 hf8⟩
      ·have d1:=aM hq
       have d2:decide ((k:Int)<(arms.length:Int))=false:=aM (by omega);go_wp2;go_meet;exact ⟨S,a2,l2,c2,hB1⟩
     case rest =>
      obtain ⟨S,a2,l2,c2,hBD⟩:=hcut;obtain ⟨U,hUe⟩:∃ U,U=wc:=⟨_,rfl⟩;subst hUe;clear hB1;have hbw:=hBD.2.2.2.2.2.2.1;have hRU:=ai hr hbw;have hEU:=hEi.kept hbw;clear hbw;go_upto_region 16 with (first
       | ((with_reducible refine bT 35 _ A (off+k * 6) (lU d0 i0 st (.slice ax lx.length cx)) (snV d0 i0 st (.slice ax lx.length cx)) rfl _ underlying35 rfl (by kernel_rfl) hRU ?_ rfl ?_);exact rfl)
       | (go_at_call 10;(with_reducible refine (HM.out _ hEU).mono ?_);rintro x w3 ⟨m,b,s,y,rfl,hm3,hb3⟩)
       | (refine ww 42 _ _ _ (snA d0 i0 st (.pointer (some ⟨m,0,none⟩))) _ rfl rfl (by kernel_rfl) rfl (by kernel_rfl) ?_)
       | (refine nR 48 _ _ _ (rkA d0 i0 st y) (w3.heap.size+1) (by simp) rfl rfl (by kernel_rfl) rfl (by kernel_rfl) ?_))
      refine aI (fun V hV=>?_);have hbV:Below w3.heap.size w3 V:=by rw [hV.out];go_grown
      have hS1:V.rangeAt w3.heap.size 0 (lU d0 i0 st (.pointer (some ⟨m,0,none⟩))):=by rw [hV.out];exact ai (uK _ _ _ _ _ _) ((bh _ _).alloc (ar _) _)
      have hTb:V.heap[w3.heap.size+1]?=some (.cells (rkA d0 i0 st y) 48 (0,0)):=by rw [hV.out];exact eY _ _ _
      have hT1:V.rangeAt (w3.heap.size+1) 0 (Dt d0 i0 st y):=by
       rw [hV.out];have:=Md d0 i0 st y (w3.alloc (.cells (snA d0 i0 st (.pointer (some ⟨m,0,none⟩))) 42)) 48;rw [show (w3.alloc (.cells (snA d0 i0 st (.pointer (some ⟨m,0,none⟩))) 42)).heap.size=w3.heap.size+1 by simp] at this;exact this
      have hmp:=hm3.map.kept_w hbV;have hry:=hm3.ref.keep hbV;have hrel:=hm3.rel;have hg:SGood s 20:=(hm3.sg47 HSL.out).mono (by omega);have UI:s.K.length<=20:=by have:=hm3.len;rw [aW] at this;omega
      have hBV:=hBD.below (below2 hb3 hbV);clear hV hm3 hbV hb3 hBD hRU hEU HM HSL hr hEi;generalize w3.heap.size=X1 at *
      cases hok:sF d0 i0 st with
      | false =>
        have HWr:=aq (fun (X:World)=>DZ (w.heap.size+1) d0 i0 st m X hok);have HR0:=fun (X:World)=>wO d0 i0 st y X;simp only [hok] at HR0;have HR:=aq HR0;clear HR0 hok hmp hry hrel hg UI hTb;go_upto_region 17 with (first
           | ((with_reducible refine bT 42 _ X1 0 (lU d0 i0 st (.pointer (some ⟨m,0,none⟩))) (snV d0 i0 st (.pointer (some ⟨m,0,none⟩))) rfl _ underlying42 rfl (by kernel_rfl) hS1 ?_ rfl ?_);exact rfl)
           | (go_at_call 11;(with_reducible refine (HWr.out _).mono ?_);rintro x w5 ⟨rfl,hb5⟩))
        have hT5:=ai hT1 hb5;have hB5:=hBV.below hb5;clear hT1 hS1 hBV hb5;go_wp2_with (first
           | ((with_reducible refine bT 48 _ (X1+1) 0 (Dt d0 i0 st y) (.agg (rkA d0 i0 st y)) rfl _ underlying48 rfl (by kernel_rfl) hT5 ?_ rfl ?_);exact rfl)
           | (go_at_call 12;(with_reducible refine (HR.out _).mono ?_);rintro x w7 ⟨rfl,hb7⟩))
        have hB7:=aq (hB5.below hb7);clear hB5 hb7 hT5;go_roundw
        case rel=>exact ⟨k+1,S,a2,l2,c2,by go_num,HLT.out,hB7.out⟩
        case measure => exact z65
      | true =>
        obtain ⟨d',i',rfl,rfl,hd,hi,hst'⟩:=PK hok;have HR0:=fun (X:World)=>wO d' i' st y X;simp only [hok] at HR0;have HR:=aq HR0;have hyc:y.ctx=s.ctx:=hrel.ctx;have hyd:y.dead.length<=1280:=by
           have h1:y.dead=sortD s.dead:=hrel.dead;rw [h1];exact Nat.le_trans (gX _) hg.dead
        have hyK:y.K.length<=20:=by
           have h3:=congrArg List.length hrel.kept;rw [gI hg.nd] at h3;have h4:(evsOf y.K).length=s.K.length:=h3;rw [aW] at h4;omega
        have hme:aZ y.ctx=0:=by rw [hyc];exact hg.inv.marks (by have:=hg.ctx;omega)
        obtain ⟨_,hoK,hoD⟩:=hrel.oks hg.inv;have hfl:=pg hg UI;have hbl:=uD (st:=st) hd hi hfl;have hfr:(dJ (ckB d' i' st (fM s))).length<=1048590:=by
           rw [oH];exact wH (by omega)
        obtain ⟨F,D,hD,hF,hFt,hNx⟩:=hBV.opened;have hiS:=hBV.2.1;have TK:=zy (B:=w.heap.size) (dv:=d') (ic:=i') (st:=st) (pv:=.pointer (some ⟨m,0,none⟩)) (l:=dJ (ckB d' i' st (fM s))) V hD hiS (fun k hk=>(hF k hk).1) hBV.2.2.2.2.2.2.1.size (by omega) (fun X hX=>zA d' i' st X (hmp.kept_w hX) hg.inv hg.nd (by have:=hg.ctx;omega) (by have:=hg.dead;omega) (by omega) hd hi hst' (by omega));have Vj:=fun (X:World) (h:RMIn X y)=>FH d' i' st y X h hme (by omega) (by omega) hoK hoD hd hi hst' (by rw [wM hrel];omega);rw [wM hrel] at Vj;have TL:=fun (X:World) (ab:Option Addr) (cb:Nat) (h:RFsIn X a2 l2) (hbs:BytesIn X ab (dJ (ckB d' i' st (fM s))))=>FD (S:=S) a2 ab c2 cb l2 (dJ (ckB d' i' st (fM s))) X hiS hBV.2.2.2.2.1 hBV.2.2.2.2.2.1 h hbs (by omega);have hiL:=hiS.layS (dJ (ckB d' i' st (fM s)));have hnT:=hFt _ _ _ hTb (by decide);clear HR0 hok hrel hg UI hyc hyd hyK hme hoK hoD hfl hbl hfr hd hi hst' hFt hTb hmp hiS;generalize dJ (ckB d' i' st (fM s))=fb at *;obtain ⟨S2,c2e,hS2⟩:∃ S2 c2e,layS S fb=(S2,c2e):=⟨_,_,rfl⟩;rw [hS2] at TK TL hiL;simp only at TK TL hiL;have HWr:=aq TK;have HRB:=aq Vj;have HRW:=aq TL;have HNx:=aq hNx;have HI2:=aq hiL;have HF:=aq (fun k hk=>(hF k hk).2);have hcc:(c2e != c2e)=false:=by simp
        clear TK Vj TL hNx hiL hF hS2 hBV;go_upto_region 17 with (first
           | ((with_reducible refine bT 42 _ X1 0 (lU d' i' st (.pointer (some ⟨m,0,none⟩))) (snV d' i' st (.pointer (some ⟨m,0,none⟩))) rfl _ underlying42 rfl (by kernel_rfl) hS1 ?_ rfl ?_);exact rfl)
           | (go_at_call 11;(with_reducible refine HWr.out.mono ?_);rintro x w5 ⟨rfl,hD5,hf5⟩))
        have hB5:=HNx.out _ _ HI2.out hD5 hf5;have hT5:=wQ hT1 hf5 hnT;have VG:=hry.frP hf5 HF.out;clear hT1 hS1 hD hD5 hf5 hry HNx HWr HF hnT;go_upto_region 20 with (first
           | ((with_reducible refine bT 48 _ (X1+1) 0 (Dt d' i' st y) (.agg (rkA d' i' st y)) rfl _ underlying48 rfl (by kernel_rfl) hT5 ?_ rfl ?_);exact rfl)
           | (go_at_call 12;(with_reducible refine (HR.out _).mono ?_);rintro x w7 ⟨rfl,hb7⟩))
        refine aI (fun V hV=>?_);have hbV:Below w5.heap.size w5 V.drew:=by rw [hV.out];exact hb7.drew
        have hBV:=hB5.below hbV;have Qp:=VG.keep hbV;have vT:=ai hT5 hbV;clear hV hbV hb7 hB5 VG hT5 HR;have HZ:=aq hBV;obtain ⟨-,-,hX,BU,-,-,-,-⟩:=hBV;have hxl:=hX.lt;have vR:V.drew.rangeAt wN.heap.size 0 [.slice a2 l2.length c2,.int .i64 S.arm,.bool S.down]:=hX.range;clear hX;refine wp_region_noPanic ?_;refine wp_region_held_drew (S:=fun W'=>Below V.drew.heap.size V.drew W') (by kernel_rfl) (bh _ _) (fun hHeld=>?_);refine tH 0 74 rfl (yieldsIf_load_mid (by rfl) 29 _ rfl wN.heap.size 0 rfl [.slice a2 l2.length c2,.int .i64 S.arm,.bool S.down] _ (fun X h=>ai vR h) underlying29 rfl (by kernel_rfl)) ?_;try simp only [pS]
        refine tH 1 75 rfl (yieldsIf_load_mid (by rfl) 48 _ rfl (X1+1) 0 rfl (Dt d' i' st y) _ (fun X h=>ai vT h) underlying48 rfl (by kernel_rfl)) ?_;try simp only [pS]
        refine wpAnyH_ready (rs:=[2,7]) (by kernel_rfl) (by simp) ?_;refine AllReadyH.cons (o:=⟨some 76,_,_,_,_,_⟩) rfl (fun K hK=>?_) (AllReadyH.cons (o:=⟨some 13,_,_,_,_,_⟩) rfl (fun K hK=>?_) AllReadyH.nil);focus
           go_simp;go_at_call 14;(with_reducible refine (HRB.out _ (Qp.keep hHeld)).mono ?_)
           rintro v w5 ⟨v5,rfl,hown5,hb5⟩;obtain ⟨ab,cb,rfl,hbs⟩:=bP hown5;clear hown5;go_simp;have hNext:=hHeld.trans (hb5.mono hHeld.size);refine hK.out _ _ hNext (fun ah=>?_);clear hK K hHeld;have hHeld:=hNext;clear ah hNext;try simp only [pS]
           refine wpAnyH_ready (rs:=[3,7]) (by kernel_rfl) (by simp) ?_;refine AllReadyH.cons (o:=⟨some 77,_,_,_,_,_⟩) rfl (fun K hK=>?_) (AllReadyH.cons (o:=⟨some 13,_,_,_,_,_⟩) rfl (fun K hK=>?_) AllReadyH.nil);focus
            go_simp;go_at_call 13;(with_reducible refine (HRW.out _ _ cb (BU.kept hHeld) (hbs)).mono ?_)
            rintro v w6 ⟨a6,l6,c6,rfl,tC,hc6,hl6,hb6⟩;go_simp;have hNext:=hHeld.trans (hb6.mono hHeld.size);refine hK.out _ _ hNext (fun ah=>?_);clear hK K hHeld;have hHeld:=hNext;clear ah hNext;try simp only [pS]
            refine tH (v:=?_) 4 73 rfl (bb ⟨by rfl,?_⟩) ?_
            case refine_2 => exact z61
            try simp only [pS]
            refine tH (v:=?_) 5 78 rfl (bb ⟨by rfl,?_⟩) ?_
            case refine_2 => exact z61
            try simp only [pS]
            refine tH (v:=?_) 6 79 rfl (bb ⟨by rfl,?_⟩) ?_
            case refine_2 => exact z61
            try simp only [pS]
            refine rH 7 13 rfl fun K hK=>?_;go_simp;have hNext:=hHeld.alloc hHeld.size (.cells #[.slice none 0 0,.int .i64 0,.bool false] 29);refine hK.out _ _ hNext (fun ah=>?_);clear hK K hHeld;have hHeld:=hNext;clear ah hNext;try simp only [pS]
            have hgz:V.drew.heap.size<=w6.heap.size:=Nat.le_trans hb5.size hb6.size;have hq0:B3 (w6.alloc (.cells #[.slice none 0 0,.int .i64 0,.bool false] 29)) w6.heap.size 29 (.slice none 0 0) (.int .i64 0) (.bool false):=aY _ _;refine wpAnyH_ready (rs:=[8]) (by kernel_rfl) (by simp) ?_;refine AllReadyH.cons (o:=⟨none,_,_,_,_,_⟩) rfl (fun K hK=>?_) AllReadyH.nil;refine dM (by rfl) 29 _ _ rfl (w6.heap.size) #[.slice a6 l6.length c6,.int .i64 S2.arm,.bool S2.down] rfl rfl 29 _ hq0 (by kernel_rfl) rfl (by kernel_rfl) ?_;have hNext:=below_setRow hHeld hgz #[.slice a6 l6.length c6,.int .i64 S2.arm,.bool S2.down];refine hK.out _ _ hNext (fun ah=>?_);clear hK K hHeld;have hHeld:=hNext;clear ah hNext;try simp only [pS]
            refine tH (v:=?_) 9 14 rfl (bb ⟨by rfl,?_⟩) ?_
            case refine_2 => exact z61
            try simp only [pS]
            refine wpAnyH_done (by kernel_rfl) ?_ _;refine NoPanic.normal ?_;obtain ⟨X,hX9⟩:∃ X,X=(w6.alloc (.cells #[.slice none 0 0,.int .i64 0,.bool false] 29)).setRow (w6.heap.size) #[.slice a6 l6.length c6,.int .i64 S2.arm,.bool S2.down]:=⟨_,rfl⟩;rw [<- hX9] at hHeld ⊢;have hY:B3 X (w6.heap.size) 29 (.slice a6 l6.length c6) (.int .i64 S2.arm) (.bool S2.down):=by rw [hX9];exact B3.row hq0 _ _ _
            have xk:RFsIn X a6 l6:=by rw [hX9];exact RFsIn.fr (tC.kept ((bh _ _).alloc (ar _) _)) (lC _ _ _) (fun q hq=>by subst hq;exact ⟨B3.noByte hq0 ⟨trivial,trivial,trivial⟩,B3.noStr hq0 ⟨trivial,trivial,trivial⟩⟩)
            have hBX:=HZ.out.below hHeld;have HL6:=aq hl6;generalize w6.heap.size=G at hY ⊢;clear hX9 hq0 hHeld hgz tC hb6 hl6 vR vT BU HZ hbs hb5 Qp;obtain ⟨z0,z1,z2,z3,z4,z5⟩:=hY.cells;have hx3:=hBX.2.2.1;go_upto_region 22 with (refine wpList_store_row rfl 29 _ _ rfl wN.heap.size #[.slice a6 l6.length c6,.int .i64 S2.arm,.bool S2.down] rfl rfl 29 _ hx3 (by kernel_rfl) rfl (by kernel_rfl) ?_)
            clear z0 z1 z2 z3 z4 z5 hx3 hY;have hBY:=hBX.row (T:=S2) xk hc6 HL6.out;clear hBX xk;generalize X.setRow wN.heap.size #[.slice a6 l6.length c6,.int .i64 S2.arm,.bool S2.down]=Y at *;have HBY:=aq hBY;obtain ⟨⟨D9,hD9⟩,hi9,hB9,DL,-,-,-,-⟩:=hBY;have HIs:=aq (Gq (cap:=c6) hD9 hi9 DL HL6.out);obtain ⟨z0,z1,z2,z3,z4,z5⟩:=hB9.cells;clear hD9 hi9 hB9 DL;go_wp2_with (go_at_call 15;(with_reducible refine HIs.out.mono ?_);rintro x w9 ⟨rfl,hb9⟩)
            have hBZ:=aq (HBY.out.below hb9);clear hb9 z0 z1 z2 z3 z4 z5;go_roundw
            case rel=>exact ⟨k+1,S2,a6,l6,c6,by go_num,HLT.out,hBZ.out⟩
            case measure => exact z65
           focus
            go_simp;have hNext:=hHeld.alloc hHeld.size (.cells #[.slice none 0 0,.int .i64 0,.bool false] 29);refine hK.out _ _ hNext (fun ah=>?_);clear hK K hHeld;have hHeld:=hNext;clear ah hNext;try simp only [pS]
            refine rH 3 77 rfl fun K hK=>?_;go_simp;go_at_call 13;(with_reducible refine (HRW.out _ _ cb (BU.kept hHeld) (BytesIn.kept hbs ((bh _ _).alloc (ar _) _))).mono ?_)
            rintro v w6 ⟨a6,l6,c6,rfl,tC,hc6,hl6,hb6⟩;go_simp;have hNext:=hHeld.trans (hb6.mono hHeld.size);refine hK.out _ _ hNext (fun ah=>?_);clear hK K hHeld;have hHeld:=hNext;clear ah hNext;try simp only [pS]
            refine tH (v:=?_) 4 73 rfl (bb ⟨by rfl,?_⟩) ?_
            case refine_2 => exact z61
            try simp only [pS]
            refine tH (v:=?_) 5 78 rfl (bb ⟨by rfl,?_⟩) ?_
            case refine_2 => exact z61
            try simp only [pS]
            refine tH (v:=?_) 6 79 rfl (bb ⟨by rfl,?_⟩) ?_
            case refine_2 => exact z61
            try simp only [pS]
            have hgz:V.drew.heap.size<=w5.heap.size:=hb5.size;have hq0:B3 w6 w5.heap.size 29 (.slice none 0 0) (.int .i64 0) (.bool false):=(hb6.block w5.heap.size (by simp)).trans (aY w5 _);refine wpAnyH_ready (rs:=[8]) (by kernel_rfl) (by simp) ?_;refine AllReadyH.cons (o:=⟨none,_,_,_,_,_⟩) rfl (fun K hK=>?_) AllReadyH.nil;refine dM (by rfl) 29 _ _ rfl (w5.heap.size) #[.slice a6 l6.length c6,.int .i64 S2.arm,.bool S2.down] rfl rfl 29 _ hq0 (by kernel_rfl) rfl (by kernel_rfl) ?_;have hNext:=below_setRow hHeld hgz #[.slice a6 l6.length c6,.int .i64 S2.arm,.bool S2.down];refine hK.out _ _ hNext (fun ah=>?_);clear hK K hHeld;have hHeld:=hNext;clear ah hNext;try simp only [pS]
            refine tH (v:=?_) 9 14 rfl (bb ⟨by rfl,?_⟩) ?_
            case refine_2 => exact z61
            try simp only [pS]
            refine wpAnyH_done (by kernel_rfl) ?_ _;refine NoPanic.normal ?_;obtain ⟨X,hX9⟩:∃ X,X=(w6).setRow (w5.heap.size) #[.slice a6 l6.length c6,.int .i64 S2.arm,.bool S2.down]:=⟨_,rfl⟩;rw [<- hX9] at hHeld ⊢;have hY:B3 X (w5.heap.size) 29 (.slice a6 l6.length c6) (.int .i64 S2.arm) (.bool S2.down):=by rw [hX9];exact B3.row hq0 _ _ _
            have xk:RFsIn X a6 l6:=by rw [hX9];exact RFsIn.fr (tC) (lC _ _ _) (fun q hq=>by subst hq;exact ⟨B3.noByte hq0 ⟨trivial,trivial,trivial⟩,B3.noStr hq0 ⟨trivial,trivial,trivial⟩⟩)
            have hBX:=HZ.out.below hHeld;have HL6:=aq hl6;generalize w5.heap.size=G at hY ⊢;clear hX9 hq0 hHeld hgz tC hb6 hl6 vR vT BU HZ hbs hb5 Qp;obtain ⟨z0,z1,z2,z3,z4,z5⟩:=hY.cells;have hx3:=hBX.2.2.1;go_upto_region 22 with (refine wpList_store_row rfl 29 _ _ rfl wN.heap.size #[.slice a6 l6.length c6,.int .i64 S2.arm,.bool S2.down] rfl rfl 29 _ hx3 (by kernel_rfl) rfl (by kernel_rfl) ?_)
            clear z0 z1 z2 z3 z4 z5 hx3 hY;have hBY:=hBX.row (T:=S2) xk hc6 HL6.out;clear hBX xk;generalize X.setRow wN.heap.size #[.slice a6 l6.length c6,.int .i64 S2.arm,.bool S2.down]=Y at *;have HBY:=aq hBY;obtain ⟨⟨D9,hD9⟩,hi9,hB9,DL,-,-,-,-⟩:=hBY;have HIs:=aq (Gq (cap:=c6) hD9 hi9 DL HL6.out);obtain ⟨z0,z1,z2,z3,z4,z5⟩:=hB9.cells;clear hD9 hi9 hB9 DL;go_wp2_with (go_at_call 15;(with_reducible refine HIs.out.mono ?_);rintro x w9 ⟨rfl,hb9⟩)
            have hBZ:=aq (HBY.out.below hb9);clear hb9 z0 z1 z2 z3 z4 z5;go_roundw
            case rel=>exact ⟨k+1,S2,a6,l6,c6,by go_num,HLT.out,hBZ.out⟩
            case measure => exact z65
        focus
           go_simp;have hNext:=hHeld.alloc hHeld.size (.cells #[.slice none 0 0,.int .i64 0,.bool false] 29);refine hK.out _ _ hNext (fun ah=>?_);clear hK K hHeld;have hHeld:=hNext;clear ah hNext;try simp only [pS]
           replace hHeld:Below V.drew.heap.size V.drew (V.alloc (.cells #[.slice none 0 0,.int .i64 0,.bool false] 29)).drew:=hHeld;refine rH 2 76 rfl fun K hK=>?_;go_simp;go_at_call 14;(with_reducible refine (HRB.out _ (Qp.keep hHeld)).mono ?_)
           rintro v w5 ⟨v5,rfl,hown5,hb5⟩;obtain ⟨ab,cb,rfl,hbs⟩:=bP hown5;clear hown5;go_simp;have hNext:=hHeld.trans (hb5.mono hHeld.size);refine hK.out _ _ hNext (fun ah=>?_);clear hK K hHeld;have hHeld:=hNext;clear ah hNext;try simp only [pS]
           refine rH 3 77 rfl fun K hK=>?_;have hq5:B3 w5 V.heap.size 29 (.slice none 0 0) (.int .i64 0) (.bool false):=(hb5.block V.heap.size (by show V.heap.size<(V.heap.push _).size;simp)).trans (aY V _);go_simp;go_at_call 13;(with_reducible refine (HRW.out _ _ cb (BU.kept hHeld) (hbs)).mono ?_)
           rintro v w6 ⟨a6,l6,c6,rfl,tC,hc6,hl6,hb6⟩;go_simp;have hNext:=hHeld.trans (hb6.mono hHeld.size);refine hK.out _ _ hNext (fun ah=>?_);clear hK K hHeld;have hHeld:=hNext;clear ah hNext;try simp only [pS]
           refine tH (v:=?_) 4 73 rfl (bb ⟨by rfl,?_⟩) ?_
           case refine_2 => exact z61
           try simp only [pS]
           refine tH (v:=?_) 5 78 rfl (bb ⟨by rfl,?_⟩) ?_
           case refine_2 => exact z61
           try simp only [pS]
           refine tH (v:=?_) 6 79 rfl (bb ⟨by rfl,?_⟩) ?_
           case refine_2 => exact z61
           try simp only [pS]
           have hgz:V.drew.heap.size<=V.heap.size:=ar _;have hq0:=hq5.below hb6;clear hq5;refine wpAnyH_ready (rs:=[8]) (by kernel_rfl) (by simp) ?_;refine AllReadyH.cons (o:=⟨none,_,_,_,_,_⟩) rfl (fun K hK=>?_) AllReadyH.nil;refine dM (by rfl) 29 _ _ rfl (V.heap.size) #[.slice a6 l6.length c6,.int .i64 S2.arm,.bool S2.down] rfl rfl 29 _ hq0 (by kernel_rfl) rfl (by kernel_rfl) ?_;have hNext:=below_setRow hHeld hgz #[.slice a6 l6.length c6,.int .i64 S2.arm,.bool S2.down];refine hK.out _ _ hNext (fun ah=>?_);clear hK K hHeld;have hHeld:=hNext;clear ah hNext;try simp only [pS]
           refine tH (v:=?_) 9 14 rfl (bb ⟨by rfl,?_⟩) ?_
           case refine_2 => exact z61
           try simp only [pS]
           refine wpAnyH_done (by kernel_rfl) ?_ _;refine NoPanic.normal ?_;obtain ⟨X,hX9⟩:∃ X,X=(w6).setRow (V.heap.size) #[.slice a6 l6.length c6,.int .i64 S2.arm,.bool S2.down]:=⟨_,rfl⟩;rw [<- hX9] at hHeld ⊢;have hY:B3 X (V.heap.size) 29 (.slice a6 l6.length c6) (.int .i64 S2.arm) (.bool S2.down):=by rw [hX9];exact B3.row hq0 _ _ _
           have xk:RFsIn X a6 l6:=by rw [hX9];exact RFsIn.fr (tC) (lC _ _ _) (fun q hq=>by subst hq;exact ⟨B3.noByte hq0 ⟨trivial,trivial,trivial⟩,B3.noStr hq0 ⟨trivial,trivial,trivial⟩⟩)
           have hBX:=HZ.out.below hHeld;have HL6:=aq hl6;generalize V.heap.size=G at hY ⊢;clear hX9 hq0 hHeld hgz tC hb6 hl6 vR vT BU HZ hbs hb5 Qp;obtain ⟨z0,z1,z2,z3,z4,z5⟩:=hY.cells;have hx3:=hBX.2.2.1;go_upto_region 22 with (refine wpList_store_row rfl 29 _ _ rfl wN.heap.size #[.slice a6 l6.length c6,.int .i64 S2.arm,.bool S2.down] rfl rfl 29 _ hx3 (by kernel_rfl) rfl (by kernel_rfl) ?_)
           clear z0 z1 z2 z3 z4 z5 hx3 hY;have hBY:=hBX.row (T:=S2) xk hc6 HL6.out;clear hBX xk;generalize X.setRow wN.heap.size #[.slice a6 l6.length c6,.int .i64 S2.arm,.bool S2.down]=Y at *;have HBY:=aq hBY;obtain ⟨⟨D9,hD9⟩,hi9,hB9,DL,-,-,-,-⟩:=hBY;have HIs:=aq (Gq (cap:=c6) hD9 hi9 DL HL6.out);obtain ⟨z0,z1,z2,z3,z4,z5⟩:=hB9.cells;clear hD9 hi9 hB9 DL;go_wp2_with (go_at_call 15;(with_reducible refine HIs.out.mono ?_);rintro x w9 ⟨rfl,hb9⟩)
           have hBZ:=aq (HBY.out.below hb9);clear hb9 z0 z1 z2 z3 z4 z5;go_roundw
           case rel=>exact ⟨k+1,S2,a6,l6,c6,by go_num,HLT.out,hBZ.out⟩
           case measure => exact z65
  ·have hke:k=ls.length:=by omega
   subst hke;have hbw:=hBD.2.2.2.2.2.2.1;have HWN:=aq (fun X=>Jb (snV 0 0 ⟨0,0,0⟩ (.pointer none)) X ⟨_,rfl,rfl⟩);have HB:=aq hbw;clear hBD;go_wp2_with (first
        | (refine Great.wpList_buildTo rfl 42 _ rfl _ rfl (snA 0 0 ⟨0,0,0⟩ (.pointer none)) (by kernel_rfl) ?_)
        | (go_at_call 11;(with_reducible refine (HWN.out _).mono ?_);rintro x w1 ⟨rfl,hb1⟩)
        | (go_at_call 5;(with_reducible refine (HA.out _).mono ?_);rintro x w2 ⟨rfl,hb2⟩))
   go_ret;exact ⟨rfl,HB.out.trans ((below2 hb1 hb2).mono HB.out.size)⟩
end Go.Proofs.YthphepeniaemoaaGreat
