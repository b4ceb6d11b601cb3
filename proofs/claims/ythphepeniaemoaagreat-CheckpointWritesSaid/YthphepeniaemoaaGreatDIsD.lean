/- The disk's law: the reference's files behind a crash. Conditions: as in the text. -/
import Derived.Test.YthphepeniaemoaaGreatCel
import Derived.Test.YthphepeniaemoaaGreatDCrash
import Derived.Test.YthphepeniaemoaaGreatTrod
import Derived.Test.YthphepeniaemoaaGreatDAwake
import Derived.Test.YthphepeniaemoaaGreatLoad
set_option linter.unusedSimpArgs false
set_option linter.unusedVariables false
set_option linter.unnecessarySimpa false
set_option maxHeartbeats 16000000
set_option maxRecDepth 100000
open Go.Proofs.Tryz
namespace Go.Proofs.YthphepeniaemoaaGreat
open Go.RowKit
end Go.Proofs.YthphepeniaemoaaGreat
/- The disk's steps and keeps as arguments. Conditions: none. -/
namespace Go.Proofs.YthphepeniaemoaaGreat
open Go.ChangeShapes Go.WideShapes Go.ChangeAt Go.RowKit
/-- a step, and where its bytes and keeps lie -/
structure StepIt where
 kind:Int
 n:Int
 name:ByteArray
 dst:ByteArray
 b:Bytes
 ab:Option Addr
 cb:Nat
 l:Ks
 al:Option Addr
 cl:Nat
def Xw (l:Ks):Prop:=∀ p∈l,p.1.size<=maxLen/\(Lit.int .i64 p.2).wf=true
structure StepIn (w:World) (s:StepIt):Prop where
 name:s.name.size<=maxLen
 dst:s.dst.size<=maxLen
 bytes:BytesIn w s.ab s.b
 keeps:CellsIn w s.al (kcs s.l)
 ks:Xw s.l
 blen:s.b.length<=maxLen
 llen:s.l.length<=maxLen
theorem StepIn.kept {w w':World} {s:StepIt} (h:StepIn w s) (hb:Below w.heap.size w w'):StepIn w' s:=⟨h.name,h.dst,h.bytes.kept hb,h.keeps.kept hb,h.ks,h.blen,h.llen⟩
section
variable {H:Type} {enc:TypeId×Value->H} {w:World} {base:Nat} {spare:Nat->Bool} {held:Bool}
end
variable {F:Nat->Prop} {d:Nat} {S:DS} {b:Nat} {D:DataW Unit} {w w':World}
/-- the blocks that are a disk's, and no others -/
def Ex (w:World) (F:Nat->Prop) (d b:Nat) (D:DataW Unit):Nat->Prop:=fun k=>F k/\k<w.heap.size/\(k=d\/k=b\/∃ s:ByteArray,D.atKey (nk s) .nil=.lit (.int .i64 k))
theorem DkIn.exact (h:DkIn w F d S b D):DkIn w (Ex w F d b D) d S b D :=
 ⟨⟨h.fd,Fr.lt h.cells,bb rfl⟩,h.cells,⟨h.fb,by obtain ⟨es,cl,hb,_⟩:=h.own;exact Fr.lt hb,bd (bb rfl)⟩,h.own,
   ⟨h.files.none,fun s f hg=>by
    obtain ⟨fb,h1,h2,h3⟩:=h.files.some s f hg;have hlt:fb<w.heap.size:=by obtain ⟨a,cap,h4,_⟩:=h3;exact Fr.lt h4
    exact ⟨fb,⟨h1,hlt,bd (bd ⟨s,h2⟩)⟩,h2,h3⟩,h.files.apart,h.files.has,h.files.size⟩⟩
theorem DkIn.plain (h:DkIn w F d S b D):∀ k,Ex w F d b D k->NoByte w k/\zF w k:=by
 rintro k ⟨_,_,hk | hk | ⟨s,hk⟩⟩
 ·subst hk;exact ⟨NoByte.disk h.cells,h.cells.noStr⟩
 ·subst hk
  refine ⟨?_,Qb h.own⟩;obtain ⟨es,cl,hb,_⟩:=h.own;exact NoByte.map hb
 ·cases hg:bY S.f s with
  | none=>have:=h.files.none s hg;rw [this] at hk;cases hk
  | some f =>
    obtain ⟨fb,_,h2,h3⟩:=h.files.some s f hg;obtain rfl:fb=k:=by have:=h2.symm.trans hk;simp at this;omega
    exact ⟨FileAt.noByte h3 _ rfl,h3.noStr⟩
def DS.step (S:DS) (s:StepIt):DS :=
 if s.kind=1 then (S.append s.name s.b).1 else if s.kind=2 then (S.sync s.name).1 else if s.kind=3 then (S.trunc s.name s.n).1 else if s.kind=4 then (S.rename s.name s.dst).1
 else if s.kind=5 then (S.remove s.name).1 else if s.kind=8 then (S.rarm s.n).1 else if s.kind=6 then S.crash s.l else S
theorem DInv.step {S:DS} (h:DInv S) (s:StepIt):DInv (S.step s):=by
 unfold DS.step;repeat' split
 ·exact h.append _ _
 ·exact h.sync _
 ·exact h.trunc _ _
 ·exact h.rename _ _
 ·exact h.remove _
 ·exact h.arm' _
 ·exact h.crash _
 ·exact h
theorem Vq (n:Int) (h:DkIn w F d S b D):Calls prog 9 #[.pointer (some ⟨d,0,none⟩),.int .i64 n] w (RetDk F d b (S.rarm n).1 (S.rarm n).2 w):=by
 refine (TQ d b S.arm S.down n w h.cells).mono ?_;rintro e w' ⟨rfl,hc,hf⟩;have h2:=h.setCells hc hf;refine ⟨?_,⟨D,?_⟩,hf.mono fun k _ hk=>by subst hk;exact h.fd⟩
 ·unfold DS.rarm;split <;> rfl
 ·have:(S.rarm n).1={ S with arm:=if kY n then n.toNat else S.arm,down:=S.down }:=by unfold DS.rarm;split <;> rfl
  rw [this];exact h2.mono fun k hk=>bb hk
theorem Sj (a:Option Addr) (cap:Nat) (l:List RF) (N:Int) (hlc:l.length<=cap) (hl:bJ l=S.f) (h:RFsIn w a l):Calls prog 8 #[je a l.length cap S.arm S.down,.int .i64 N] w (uX (S.rarm N).1 (S.rarm N).2 w):=by
 refine (PT a l.length cap S.arm S.down N w).mono ?_;rintro e w' ⟨rfl,hb⟩;refine ⟨a,l,cap,?_,h.kept hb,hlc,?_,hb⟩
 ·unfold DS.rarm;split <;> rfl
 ·rw [hl];unfold DS.rarm;split <;> rfl
theorem B3.fr {T:Nat->Prop} {R:Nat} {t:TypeId} {x y z:Value} (h:B3 w R t x y z) (hf:Fr T w w') (hn:¬ T R):B3 w' R t x y z:=(hf.block R h.lt hn).trans h
variable {F:Nat->Prop} {d:Nat} {S:DS} {b:Nat} {D:DataW Unit} {w w':World}
theorem wV {P:Program} {f:FuncId} {args:Array Value} {w:World} {n:Nat} {v:Value}
 (h:Calls P f args (w.drewN n) fun e w'=>e=.returned v/\w.drewN n=w'):Calls P f args (w.drewN n) fun e w''=>e=.returned v/\∃ m,w''=w.drewN m :=
 h.mono fun _ _ ⟨he,hm⟩=>⟨he,n,hm.symm⟩
theorem mf {B:Nat} {w:World} (n:Nat):Below B w (w.drewN n):=⟨rfl,rfl,rfl,ar _,fun _ _=>rfl⟩
variable {F:Nat->Prop} {d:Nat} {S:DS} {b:Nat} {D:DataW Unit} {w w':World}
theorem y39 {p q : Prop} (k : q) (h : PLift q -> p := by
 intro kk
 refine aI (fun Wf hWf => ?_)
 have hX : B3 Wf wr.heap.size 106 (.string f.name) (.slice ag f.b.length cg) (.int .i64 f.safe) := by rw [hWf.out]; exact aY wr _
 have hbf : Below wr.heap.size wr Wf := by rw [hWf.out]; exact (bh _ _).alloc (ar _) _
 have hDf := (hD1.below hbr).below hbf
 have nf := kept hbf n0
 have hgf := hgo.bytes.kept hbf
 have hBf := hBr.below hbf
 have KR := hbr.trans (hbf.mono hbr.size)
 revert Wf hWf hX hbf hDf nf hgf hBf KR
 exact kk.down) : p := h ⟨k⟩
theorem Ve {a:Option Addr} {cap:Nat} {l:List RF} (h:DkIn w F d S b D) (hi:DInv S) (hin:RFsIn w a l) (hl:bJ l=S.f) (hd:S.down=false) :
 Calls prog 15 #[.pointer (some ⟨d,0,none⟩),je a l.length cap S.arm S.down] w fun e w'=>e=.returned (.bool true)/\Below w.heap.size w w':=by
 have hll:l.length=S.f.length:=by have:=congrArg List.length hl;rwa [List.length_map] at this
 have h8:=hi.len;have HN:=aq (fun (X:World) (D:DataW Unit) (h:DkIn X F d S b D)=>yP h hi.srt hi.len);have HLL:=aq hll;have hlc:l.length<=8:=by omega
 have HDN:=aq (fun (X:World) (D:DataW Unit) (h:DkIn X F d S b D)=>Ju d b S.arm S.down X h.cells);have HSD:=aq hd;rw [hd] at HDN ⊢;clear hll hd;go_enter func15,ntmps15;go_upto_region 1 with fail
 refine aI (fun W hW=>?_);have hb0:Below w.heap.size w W:=by rw [hW.out];go_grown
 have hB:B3 W w.heap.size 29 (.slice a l.length cap) (.int .i64 S.arm) (.bool false):=by rw [hW.out];exact aY w _
 clear hW;go_upto_region 2 with (go_at_call 43;(with_reducible refine (HN.out _ _ (h.below hb0)).mono ?_);rintro e w1 ⟨an,cn,rfl,hnm,hb1⟩)
 have hD1:=(h.below hb0).below hb1;have hB1:=hB.below hb1;have hin1:=(hin.kept hb0).kept hb1;have Qz:=below2 hb0 hb1;have hq:((S.f.length:Int) != (l.length:Int))=false:=by rw [bne_eq_false_iff_eq,HLL.out]
 have hq2:((S.f.length:Nat) != (l.length:Nat))=false:=by rw [bne_eq_false_iff_eq,HLL.out]
 have HDW:=aq (fun (n:Nat)=>HDN.out (w1.drewN n) D (hD1.below (mf n)));obtain ⟨z0,z1,z2,t0,t1,t2⟩:=hB1.cells;go_quiet ((first | (with_reducible exact wV (HDW.out _))))
 go_wp2;have hbn:=mf (B:=w1.heap.size) (w:=w1) nq;go_loopw [6] (fun i wr=>∃ k:Nat,i=.int .i64 k/\k<=l.length/\Below w1.heap.size w1 wr) (fun i _=>l.length - (intOf i).toNat)
 case atStart=>exact ⟨0,rfl,Nat.zero_le _,hbn⟩
 case round =>
  obtain ⟨k,rfl,hk,hbr⟩:=hrel;have hBr:=hB1.below hbr;obtain ⟨z0,z1,z2,t0,t1,t2⟩:=hBr.cells;by_cases hlt:k<l.length
  ·have hks:k<S.f.length:=by rw [<- HLL.out];exact hlt
   have hfk:S.f[k]=l[k].f:=by simp only [<- hl,List.getElem_map]
   obtain ⟨AN,ofn,rfl,n0⟩:=cells_at (hnm.kept hbr) (k:=k) (by simpa [iW] using hks);simp only [iW,List.getElem_map] at n0;rw [hfk] at n0;obtain ⟨A,off,rfl,hra,hgo⟩:=(hin1.kept hbr).at hlt;have c0:=hra k hlt 0 _ rfl;have c1:=hra k hlt 1 _ rfl;have c2:=hra k hlt 2 _ rfl;rw [Nat.add_zero] at c0;have hgt:bY S.f l[k].f.name=some l[k].f:=by rw [<- hfk];exact xM hi.srt hks
   have hok:FOk l[k].f:=by rw [<- hfk];exact hi.ok _ (List.getElem_mem hks)
   have HLT:=aq hlt;clear hra hfk;generalize l[k]=x at c0 c1 c2 n0 hgt hok hgo;obtain ⟨f,ag,cg⟩:=x;simp only at c0 c1 c2 n0 hgt hok;have hns:f.name.size<=maxLen:=by have:=sN hok.name;unfold maxLen;omega
   have hfl:=hok.len;have HRD:=aq (fun (X:World) (h:DkIn X F d S b D)=>Js (f:=f) hns h hok.name hgt HSD.out (Nat.le_trans hok.len (by decide)));have hsf:nX S f.name=f.safe:=by unfold nX;rw [if_pos hok.name,hgt]
   have HSF:=aq (fun (X:World) (h:DkIn X F d S b D)=>Jp hns h);rw [hsf] at HSF;clear hsf hgt hok hlt hks;go_upto_region 8 with fail
   refine y39 ?_
   intro Wf hWf hX hbf hDf nf hgf hBf KR
   clear hWf c0 c1 c2 n0 z0 z1 z2 t0 t1 t2 hBr
   obtain ⟨x0,x1,x2,y0,y1,y2⟩:=hX.cells;go_upto_region 9 with (go_at_call 45;(with_reducible refine (HRD.out _ hDf).mono ?_);rintro e w3 ⟨v,rfl,hown3,hb3⟩;obtain ⟨a3,k3,rfl,oD,hk3⟩:=yX hown3)
   have hX3:=hX.below hb3;have hD3:=hDf.below hb3;have n3:=kept hb3 nf;have hg3:=hgf.kept hb3;have hB3:=hBf.below hb3;have UX:=KR.trans (hb3.mono KR.size);have HSB:=aq (fun X (h1:BytesIn X a3 f.b) (h2:BytesIn X ag f.b)=>AL a3 ag k3 cg f.b f.b X (by omega) (by omega) h1 h2);rw [aR rfl] at HSB;have HSN:=aq (fun (n:Nat)=>HSF.out (w3.drewN n) (hD3.below (mf n)));clear x0 x1 x2 y0 y1 y2 hX nf hgf hown3 hBf hDf;obtain ⟨x0,x1,x2,y0,y1,y2⟩:=hX3.cells;obtain ⟨z0,z1,z2,t0,t1,t2⟩:=hB3.cells;have Xd:k<l.length:=HLT.out;have hk8:k<S.f.length:=by rw [<- HLL.out];exact HLT.out
   go_quiet ((first | (with_reducible exact wV (HSN.out _))))
   have SQ:=mf (B:=w3.heap.size) (w:=w3) nq;go_wp2_with (go_at_call 47;(refine (HSB.out _ (show BytesIn (w3.drewN nq) a3 f.b from oD) (show BytesIn (w3.drewN nq) ag f.b from hg3)).mono ?_);rintro e w4 ⟨rfl,hb4⟩)
   go_roundw
   case rel=>exact ⟨k+1,by go_num,by omega,(UX.trans (SQ.mono UX.size)).trans (hb4.mono (Nat.le_trans UX.size SQ.size))⟩
   case measure => exact z67
  ·go_wp2
   go_ret;exact ⟨rfl,below2 Qz hbr⟩
variable {F:Nat->Prop} {d:Nat} {S:DS} {b:Nat} {D:DataW Unit} {w w':World}
theorem TI {a:Option Addr} {cap:Nat} {l:List RF} (h:DkIn w F d S b D) (hi:DInv S) (hin:RFsIn w a l) (hl:bJ l=S.f) (hd:S.down=true) :
 Calls prog 15 #[.pointer (some ⟨d,0,none⟩),je a l.length cap S.arm S.down] w fun e w'=>e=.returned (.bool true)/\Below w.heap.size w w':=by
 have hll:l.length=S.f.length:=by have:=congrArg List.length hl;rwa [List.length_map] at this
 have h8:=hi.len;have HN:=aq (fun (X:World) (D:DataW Unit) (h:DkIn X F d S b D)=>yP h hi.srt hi.len);have HLL:=aq hll;have hlc:l.length<=8:=by omega
 have HDN:=aq (fun (X:World) (D:DataW Unit) (h:DkIn X F d S b D)=>Ju d b S.arm S.down X h.cells);have HSD:=aq hd;rw [hd] at HDN ⊢;clear hll hd;go_enter func15,ntmps15;go_upto_region 1 with fail
 refine aI (fun W hW=>?_);have hb0:Below w.heap.size w W:=by rw [hW.out];go_grown
 have hB:B3 W w.heap.size 29 (.slice a l.length cap) (.int .i64 S.arm) (.bool true):=by rw [hW.out];exact aY w _
 clear hW;go_upto_region 2 with (go_at_call 43;(with_reducible refine (HN.out _ _ (h.below hb0)).mono ?_);rintro e w1 ⟨an,cn,rfl,hnm,hb1⟩)
 have hD1:=(h.below hb0).below hb1;have hB1:=hB.below hb1;have hin1:=(hin.kept hb0).kept hb1;have Qz:=below2 hb0 hb1;have hq:((S.f.length:Int) != (l.length:Int))=false:=by rw [bne_eq_false_iff_eq,HLL.out]
 have hq2:((S.f.length:Nat) != (l.length:Nat))=false:=by rw [bne_eq_false_iff_eq,HLL.out]
 have HDW:=aq (fun (n:Nat)=>HDN.out (w1.drewN n) D (hD1.below (mf n)));obtain ⟨z0,z1,z2,t0,t1,t2⟩:=hB1.cells;go_quiet ((first | (with_reducible exact wV (HDW.out _))))
 go_wp2;have hbn:=mf (B:=w1.heap.size) (w:=w1) nq;go_loopw [6] (fun i wr=>∃ k:Nat,i=.int .i64 k/\k<=l.length/\Below w1.heap.size w1 wr) (fun i _=>l.length - (intOf i).toNat)
 case atStart=>exact ⟨0,rfl,Nat.zero_le _,hbn⟩
 case round =>
  obtain ⟨k,rfl,hk,hbr⟩:=hrel;have hBr:=hB1.below hbr;obtain ⟨z0,z1,z2,t0,t1,t2⟩:=hBr.cells;by_cases hlt:k<l.length
  ·have hks:k<S.f.length:=by rw [<- HLL.out];exact hlt
   have hfk:S.f[k]=l[k].f:=by simp only [<- hl,List.getElem_map]
   obtain ⟨AN,ofn,rfl,n0⟩:=cells_at (hnm.kept hbr) (k:=k) (by simpa [iW] using hks);simp only [iW,List.getElem_map] at n0;rw [hfk] at n0;obtain ⟨A,off,rfl,hra,hgo⟩:=(hin1.kept hbr).at hlt;have c0:=hra k hlt 0 _ rfl;have c1:=hra k hlt 1 _ rfl;have c2:=hra k hlt 2 _ rfl;rw [Nat.add_zero] at c0;have hgt:bY S.f l[k].f.name=some l[k].f:=by rw [<- hfk];exact xM hi.srt hks
   have hok:FOk l[k].f:=by rw [<- hfk];exact hi.ok _ (List.getElem_mem hks)
   have HLT:=aq hlt;clear hra hfk;generalize l[k]=x at c0 c1 c2 n0 hgt hok hgo;obtain ⟨f,ag,cg⟩:=x;simp only at c0 c1 c2 n0 hgt hok;have hns:f.name.size<=maxLen:=by have:=sN hok.name;unfold maxLen;omega
   have hfl:=hok.len;have hre:sJ S f.name=12:=by unfold sJ;rw [if_pos hok.name,hgt];simp [HSD.out]
   have UF:=fun (X:World) (h:DkIn X F d S b D)=>TG hns h (by rw [hre];decide);rw [hre] at UF;have HRD:=aq UF;clear UF hre;have hsf:nX S f.name=f.safe:=by unfold nX;rw [if_pos hok.name,hgt]
   have HSF:=aq (fun (X:World) (h:DkIn X F d S b D)=>Jp hns h);rw [hsf] at HSF;clear hsf hgt hok hlt hks;go_upto_region 8 with fail
   refine y39 ?_
   intro Wf hWf hX hbf hDf nf hgf hBf KR
   clear hWf c0 c1 c2 n0 z0 z1 z2 t0 t1 t2 hBr
   obtain ⟨x0,x1,x2,y0,y1,y2⟩:=hX.cells;go_upto_region 9 with (go_at_call 45;(with_reducible refine (HRD.out _ hDf).mono ?_);rintro e w3 ⟨rfl,rfl⟩)
   have HSN:=aq (fun (n:Nat)=>HSF.out (Wf.drewN n) (hDf.below (mf n)));clear hgf hDf;obtain ⟨z0,z1,z2,t0,t1,t2⟩:=hBf.cells;have Xd:k<l.length:=HLT.out;have hk8:k<S.f.length:=by rw [<- HLL.out];exact HLT.out
   go_quiet ((first | (with_reducible exact wV (HSN.out _))))
   have SQ:=mf (B:=Wf.heap.size) (w:=Wf) nq;go_wp2;go_roundw
   case rel=>exact ⟨k+1,by go_num,by omega,KR.trans (SQ.mono KR.size)⟩
   case measure => exact z67
  ·go_wp2
   go_ret;exact ⟨rfl,below2 Qz hbr⟩
theorem Gq {a:Option Addr} {cap:Nat} {l:List RF} (h:DkIn w F d S b D) (hi:DInv S) (hin:RFsIn w a l) (hl:bJ l=S.f) :
 Calls prog 15 #[.pointer (some ⟨d,0,none⟩),je a l.length cap S.arm S.down] w fun e w'=>e=.returned (.bool true)/\Below w.heap.size w w':=by
 cases hd:S.down with
 | true=>have:=TI (cap:=cap) h hi hin hl hd;rwa [hd] at this
 | false=>have:=Ve (cap:=cap) h hi hin hl hd;rwa [hd] at this
end Go.Proofs.YthphepeniaemoaaGreat
