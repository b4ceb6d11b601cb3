/- The disk: Crash. Conditions: as in the text. -/
import Derived.Test.YthphepeniaemoaaGreatDCrash
import Derived.Test.YthphepeniaemoaaGreatLast
import Derived.IntWalk
import Derived.Test.YthphepeniaemoaaGreatDiskN
import Derived.Lib.SlBytesConst
set_option linter.unusedSimpArgs false
set_option linter.unusedVariables false
set_option linter.unnecessarySimpa false
set_option maxHeartbeats 16000000
set_option maxRecDepth 100000
open Go.Proofs.Tryz
namespace Go.Proofs.YthphepeniaemoaaGreat
open Go.RowKit
variable {F:Nat->Prop} {d:Nat} {S:DS} {b:Nat} {D:DataW Unit} {w w':World}
theorem FileAt.cells {w:World} {fb:Nat} {f:DF} (h:FileAt w fb f):∃ a cap,w.cell? ⟨fb,0,none⟩=some (.slice a f.b.length cap)/\w.cell? ⟨fb,1,none⟩=some (.int .i64 f.safe)/\w.frozen? ⟨fb,0,none⟩=false/\w.frozen? ⟨fb,1,none⟩=false:=by
 obtain ⟨a,cap,h1,h2,h3⟩:=h;obtain ⟨p0,p1,f0,f1⟩:=fJ h1;exact ⟨a,cap,p0,p1,f0,f1⟩
theorem Fe {ak:Option Addr} {ck:Nat} (ks:Ks) (h:DkIn w F d S b D) (hi:DInv S) (hkl:ks.length<=1048576) (hks:∀ p∈ks,p.1.size<=maxLen/\(Lit.int .i64 p.2).wf=true) (hk:CellsIn w ak (kcs ks)) :
 Calls prog 16 #[.pointer (some ⟨d,0,none⟩),.slice ak ks.length ck] w fun e w'=>e=.returned (.tuple #[])/\DkIn w' F d (S.crash ks) b D/\Fr F w w':=by
 have hmm:=@run_makeMap prog;have hT:=h.tight;have HF:Hid (∀ k,(F k/\k<w.heap.size)->F k):=aa fun k hk=>hk.1;obtain ⟨F0,hF0⟩:∃ F0,F0=fun k=>F k/\k<w.heap.size:=⟨_,rfl⟩;have HT:=aa hT;have H0:=aa hF0;obtain ⟨d0,d1,d2,e0,e1,e2⟩:=dU h.cells;have HC:=aa h.cells;clear h hT hF0;go_enter func16,ntmps16;go_upto_region 2 with fail
 refine aN (fun W hW=>?_);have hcW:DkCells W d b 0 false:=by rw [hW.out];exact qc (qg HC.out _) _
 have hfW:Fr (isR d) w W:=by rw [hW.out];exact (gp _).again (gp _)
 have hkW:=hk.frS hfW (fun k e=>by subst e;exact HC.out.noStr) (Qy ks);have hDW:DkIn W F0 d ⟨S.f,0,false⟩ b D:=by rw [H0.out];exact HT.out.setCells hcW hfW
 have hFW:Fr F w W:=hfW.mono fun k _ e=>by subst e;exact HT.out.fd.1
 clear hW hcW d0 d1 d2 e0 e1 e2 hk;have hmap:=World.ownsMap_made W prog 9 (plainElem (H:=Unit) prog 3);go_wp2;go_loopw [21] (fun i wr=>∃ (k:Nat) (E:DataW Unit),i=.int .i64 k/\k<=ks.length/\KeepMap wr W.heap.size k E/\KeepIs E (ks.take k)/\Below W.heap.size W wr) (fun i _=>ks.length - (intOf i).toNat)
 case atStart=>exact ⟨0,_,rfl,Nat.zero_le _,hmap,fun s=>rfl,(bb _ _).alloc (aq _) _⟩
 case round =>
  obtain ⟨k,E,rfl,hk1,hown,hE,hbw⟩:=hrel;by_cases hlt:k<ks.length
  ·obtain ⟨A,off,rfl,c0,c1⟩:=UM (hkW.kept hbw) hlt
   have HP:=aa (hE.put hown.isMap hlt);obtain ⟨hps,hpw⟩:=hks _ (List.getElem_mem hlt);have hzw:=hbw.size;clear hE;generalize ks[k]=p at c0 c1 HP hps hpw;obtain ⟨pn,pk⟩:=p;simp only at c0 c1 HP hps hpw;have hval:=QA hpw;have hna:∀ o:Obj,(wr.alloc o).heap[W.heap.size]?=wr.heap[W.heap.size]?:=fun o=>((bb wr.heap.size wr).alloc (aq _) o).block _ hown.lt;go_wp2_with (at_mapUpdate;go_loud (refine wpList_mapUpdate_own _ rfl _ _ _ 110 rfl 9 3 wF underlying110 (plainElem (H:=Unit) prog 3) W.heap.size k E rfl (hown.keep (hna _)) (by unfold maxLen;omega) _ _ (nk pn) rfl rfl (nT hps) (.lit (.int .i64 pk)) [] hval ?_);intro w3 hown3 hgrow3)
   go_roundw
   case rel=>exact ⟨k+1,_,by go_num,by omega,hown3,HP.out,(hbw.alloc hzw _).grown hgrow3 (by simp;omega) (fun k e=>by simp only [Option.some.injEq] at e;omega)⟩
   case measure => exact z69
  ·have hke:k=ks.length:=by omega
   subst hke;rw [List.take_length] at hE;have hDr:=hDW.below hbw;have HE:=aa hE;have hz0:=hown.lt;have HN:=aa (PN hDr hi.srt hi.len);have Xi:∀ k,F0 k->k<W.heap.size:=fun k hk=>Nat.lt_of_lt_of_le (by rw [H0.out] at hk;exact hk.2) hFW.size;clear hkW hE;obtain ⟨wq,hwq⟩:∃ wq,wq=wr:=⟨_,rfl⟩;subst hwq;go_wp2_with (go_at_call 43;(with_reducible refine HN.out.mono ?_);rintro e w4 ⟨an,cn,rfl,hnm,hb4⟩)
   have hm4:=hown.keep (hb4.block _ hz0);have hD4:=hDr.below hb4;rw [<- Gn S ks] at hD4;have XY:=hbw.trans (hb4.mono hbw.size);have h8:=hi.len;go_loopw [34] (fun i wr=>∃ k:Nat,i=.int .i64 k/\k<=S.f.length/\KeepMap wr W.heap.size ks.length E/\DkIn wr F0 d (iY S ks k) b D/\CellsIn wr an (lU S.f)/\Fr F0 w4 wr) (fun i _=>S.f.length - (intOf i).toNat)
   case atStart=>exact ⟨0,rfl,Nat.zero_le _,hm4,hD4,hnm,Fr.refl _ _⟩
   case round =>
        obtain ⟨k,rfl,hk1,hmk,hDk,hnk,hfk⟩:=hrel;by_cases hlt:k<S.f.length
        ·obtain ⟨A,off,rfl,c0⟩:=cells_at hnk (k:=k) (by simpa [lU] using hlt)
         simp only [lU,List.getElem_map] at c0;obtain ⟨fb,hF,hat,hfa⟩:=hDk.files.some _ _ (Df hi.srt hlt);have hok:=hi.ok _ (List.getElem_mem hlt);have HLT:=aa hlt;have HST:=aa (Gp (ks:=ks) hi.srt hlt);have HG:=aa (Df (ks:=ks) hi.srt hlt);have hns:S.f[k].name.size<=maxLen:=by have:=Ih hok.name;unfold maxLen;omega
         have hkv:=HE.out S.f[k].name;obtain ⟨hsf,hln⟩:S.f[k].safe<=S.f[k].b.length/\S.f[k].b.length<=16777216:=⟨hok.safe,hok.len⟩;clear hok;generalize S.f[k]=f at c0 hat hfa HST HG hns hkv hsf hln;obtain ⟨v1,ps1,hrun1,hv1⟩:=hDk.own.lookup wF underlying69 (Ad _) (zd:=.nil) (zp:=[]) rfl (nT hns);rw [hat] at hv1;obtain rfl:=EM hv1;obtain ⟨c,hrun2,hc2,hwc⟩:=hmk.lookup_int wF underlying110 underlying3 (by kernel_rfl) (nT hns);rw [hkv] at hc2;obtain rfl:kS ks f.name=c:=by simpa using hc2
         obtain ⟨d0,d1,d2,e0,e1,e2⟩:=dU hDk.cells;obtain ⟨af,cf,x0,x1,y0,y1⟩:=hfa.cells;clear hc2 hkv hv1;go_upto_region 12 with fail
         obtain ⟨r,hr⟩:∃ r,f.safe+r=f.b.length:=⟨f.b.length - f.safe,by omega⟩;obtain ⟨m,hm⟩:∃ m,m=yJ (kS ks f.name) r:=⟨_,rfl⟩;have hmr:m<=r:=by rw [hm];exact EY _ _
         have hrr:f.b.length - f.safe=r:=by omega
         have hsub:(f.b.length:Int) - (f.safe:Int)=(r:Int):=by omega
         obtain ⟨tb,htb⟩:∃ tb,tb=f.b.take (f.safe+m):=⟨_,rfl⟩;have htl:tb.length=f.safe+m:=by rw [htb];simp;omega
         have HCR:Hid (jm ks f=⟨f.name,tb,tb.length⟩):=aa (by unfold jm;rw [hrr,<- hm,htl,htb]);have Wp:min (max (kS ks f.name) 0) (r:Int)=(m:Int):=by rw [hm];unfold yJ;split <;> omega
         have hw1:IntKind.i64.wrap (r:Int)=r:=IntWalk.i64_in _ (by omega);have hw2:IntKind.i64.wrap ((f.safe:Int)+min (max (kS ks f.name) 0) (IntKind.i64.wrap (r:Int)))=((f.safe+m:Nat):Int):=by rw [hw1,Wp,Int.natCast_add];exact IntWalk.i64_in _ (by omega)
         have Yb:Hid (∀ X,FileAt X fb f->Calls prog 48 #[.pointer (some ⟨fb,0,none⟩),.int .i64 (IntKind.i64.wrap ((f.safe:Int)+min (max (kS ks f.name) 0) (IntKind.i64.wrap (r:Int))))] X fun e w'=>e=.returned (.tuple #[])/\FileAt w' fb { f with b:=tb }/\Fr (isR fb) X w'):=aa fun X hX=>by
          have:=TF (n:=f.safe+m) (by omega) (by omega) hX;rw [<- htb] at this;rw [hw2];exact this
         clear Wp hw1 hw2 hm;replace hfa:FileAt wr.drew fb f:=hfa;have HFA:=aa hfa;replace hmk:KeepMap wr.drew W.heap.size ks.length E:=hmk;replace hDk:DkIn wr.drew F0 d (iY S ks k) b D:=hDk.below (bb _ _).drew;replace hnk:CellsIn wr.drew (some ⟨A,off,none⟩) (lU S.f):=hnk;replace hfk:Fr F0 w4 wr.drew:=hfk.again (Fr.of_below (bb _ _).drew);obtain ⟨c,hrun2,hc2,hwc⟩:=hmk.lookup_int wF underlying110 underlying3 (by kernel_rfl) (nT hns);rw [HE.out] at hc2;obtain rfl:kS ks f.name=c:=by simpa using hc2
         clear x0 x1 y0 y1 htb htl hrr hc2;obtain ⟨af,cf,x0,x1,y0,y1⟩:=hfa.cells;generalize kS ks f.name=N at *;refine wp_region_noPanic ?_;refine bG (fun W'=>W'.cell? ⟨fb,0,none⟩=some (.slice af f.b.length cf)/\W'.cell? ⟨fb,1,none⟩=some (.int .i64 f.safe)/\(Instr.lookup 110 (.map (some W.heap.size)) (.string f.name) false).run prog W'=.ok (.int .i64 N) W') [24] (by kernel_rfl) ?_;have hS:=a7 x0 (a7 x1 hrun2);refine tL (v:=?_) 0 44 rfl (a8 ⟨by rfl,?_⟩) ?_
         case refine_2 => exact z23
         try simp only [pS]
         refine tL (v:=?_) 1 45 rfl (a8 ⟨by rfl,?_⟩) ?_
         case refine_2 => exact z23
         try simp only [pS]
         refine tL (v:=?_) 2 46 rfl (a8 ⟨by rfl,?_⟩) ?_
         case refine_2 => exact z23
         try simp only [pS]
         refine tL (v:=?_) 3 47 rfl (a8 ⟨by rfl,?_⟩) ?_
         case refine_2 => exact z23
         try simp only [pS]
         refine tL (v:=?_) 4 48 rfl (a8 ⟨by rfl,?_⟩) ?_
         case refine_2 => exact z23
         try simp only [pS]
         refine tL (v:=?_) 5 49 rfl (a8 ⟨by rfl,?_⟩) ?_
         case refine_2 => exact z23
         try simp only [pS]
         refine tL (v:=?_) 6 50 rfl (a8 ⟨by rfl,?_⟩) ?_
         case refine_2 => exact z23
         try simp only [pS]
         refine tL (v:=?_) 7 51 rfl (a8 ⟨by rfl,?_⟩) ?_
         case refine_2 => exact z23
         try simp only [pS]
         refine tL (v:=?_) 8 52 rfl (a8 ⟨by rfl,?_⟩) ?_
         case refine_2 => exact z23
         try simp only [pS]
         refine tL (v:=?_) 9 53 rfl (a8 ⟨by rfl,?_⟩) ?_
         case refine_2 => exact z23
         try simp only [pS]
         refine tL (v:=?_) 10 54 rfl (a8 ⟨by rfl,?_⟩) ?_
         case refine_2 => exact z23
         try simp only [pS]
         refine tL (v:=?_) 11 55 rfl (a8 ⟨by rfl,?_⟩) ?_
         case refine_2 => exact z23
         try simp only [pS]
         refine tL (v:=?_) 12 56 rfl (a8 ⟨by rfl,?_⟩) ?_
         case refine_2 => exact z23
         try simp only [pS]
         refine tL (v:=?_) 13 57 rfl (a8 ⟨by rfl,?_⟩) ?_
         case refine_2 => exact z23
         try simp only [pS]
         refine tL (v:=?_) 14 58 rfl (a8 ⟨by rfl,?_⟩) ?_
         case refine_2 => exact z23
         try simp only [pS]
         refine tL (v:=?_) 15 59 rfl (a8 ⟨by rfl,?_⟩) ?_
         case refine_2 => exact z23
         try simp only [pS]
         refine tL (v:=?_) 16 60 rfl (a8 ⟨by rfl,?_⟩) ?_
         case refine_2 => exact z23
         try simp only [pS]
         refine tL (v:=?_) 17 61 rfl (a8 ⟨by rfl,?_⟩) ?_
         case refine_2 => exact z23
         try simp only [pS]
         refine tL (v:=?_) 18 62 rfl (a8 ⟨by rfl,?_⟩) ?_
         case refine_2 => exact z23
         try simp only [pS]
         refine tL (v:=?_) 19 63 rfl (a8 ⟨by rfl,?_⟩) ?_
         case refine_2 => exact z23
         try simp only [pS]
         refine tL (v:=?_) 20 64 rfl (a8 ⟨by rfl,?_⟩) ?_
         case refine_2 => exact z23
         try simp only [pS]
         refine tL (v:=?_) 21 65 rfl (a8 ⟨by rfl,?_⟩) ?_
         case refine_2 => exact z23
         try simp only [pS]
         refine tL (v:=?_) 22 66 rfl (a8 ⟨by rfl,?_⟩) ?_
         case refine_2 => exact z23
         try simp only [pS]
         refine tL (v:=?_) 23 67 rfl (a8 ⟨by rfl,?_⟩) ?_
         case refine_2 => exact z23
         try simp only [pS]
         refine bD (i:=24) (o:=⟨some 68,_,_,_,_,_⟩) (by kernel_rfl) rfl ?_;intro K hK;go_simp;go_at_call 48;(with_reducible refine (Yb.out _ HFA.out).mono ?_)
         rintro e w5 ⟨rfl,WO,hf5⟩;go_simp
         refine y66 ?_
         clear hK K
         refine y80 ?_
         obtain ⟨a5,c5,z0,z1,t0,t1⟩:=WO.cells;have HFL:=aa (Xi fb hF);clear hrun1 hrun2 x0 x1 y0 y1 hS d0 d1 d2 e0 e1 e2 c0;go_wp2;go_roundw
         case rel =>
          have hf6:Fr (isR fb) wr.drew (w5.setCell ⟨fb,1,none⟩ (.int .i64 tb.length)):=hf5.again (gp _);have XT:FileAt (w5.setCell ⟨fb,1,none⟩ (.int .i64 tb.length)) fb (jm ks f):=by rw [HCR.out];exact WO.setSafe _
          have hD6:=DkIn.setFile (g:=f) (f:=jm ks f) hDk HG.out hat rfl XT HFA.out hf6;have he:({ iY S ks k with f:=lS (iY S ks k).f (jm ks f) }:DS)=iY S ks (k+1):=by rw [HST.out];rfl
          rw [he] at hD6;have hlt2:=HLT.out;have UX:=HFL.out;exact ⟨k+1,by go_num,by omega,hmk.keep (hf6.block _ hmk.lt (fun e=>by have:=HFL.out;simp only [isR] at e;omega)),hD6,hnk.frS hf6 (fun q hq=>by subst hq;exact HFA.out.noStr) (DT _),hfk.again (hf6.mono fun q _ hq=>by subst hq;exact hF)⟩
         case measure=>have hlt2:=HLT.out;simp [intOf] <;> omega
        ·have hke:k=S.f.length:=by omega
         subst hke;rw [Jc] at hDk;have hFF:Fr F w wr:=(hFW.again (Fr.of_below XY)).again (hfk.mono fun q _ hq=>by rw [H0.out] at hq;exact hq.1);have hDF:=hDk.mono (G:=F) fun q hq=>by rw [H0.out] at hq;exact hq.1
         go_wp2;all_goals
          go_end0;exact ⟨rfl,hDF,hFF⟩
theorem BytesIn.cells {w:World} {a:Option Addr} {l:Bytes} (h:BytesIn w a l):CellsIn w a (aY l):=by
 rcases h with rfl | ⟨A,off,h1,h2⟩
 ·exact a8 rfl
 ·refine ba ⟨A,off,h1,fun j v hv=>?_⟩
  have:=h2.news j v hv;rwa [Addr.add_mid] at this
variable {F:Nat->Prop} {d:Nat} {S:DS} {b:Nat} {D:DataW Unit} {w w':World}
variable {F:Nat->Prop} {d:Nat} {S:DS} {b:Nat} {D:DataW Unit} {s:ByteArray} {w w':World}
theorem MJ {a2:Option Addr} {l:Bytes} {cap2:Nat} (hs:s.size<=maxLen) (h:DkIn w F d S b D) (hi:DInv S) (hl:l.length<=1073741824) (hin:BytesIn w a2 l) :
 Calls prog 28 #[.pointer (some ⟨d,0,none⟩),.string s,.slice a2 l.length cap2] w (RetDk F d b (S.append s l).1 (S.append s l).2 w):=by
 by_cases hok:dG s=true
 ·cases hg:ed S.f s with
  | none=>exact JC hs h hi.srt.uniq hi.arm hok hg hl hin
  | some f=>exact JB hs h hi.srt.uniq hi.arm hi.len hok hg (hi.ok f (pJ hg)).len hin
 ·have hr:S.append s l=(S,1):=by unfold DS.append;rw [if_neg hok]
  rw [hr];exact JD hs h (Bool.eq_false_iff.2 hok)
/-- a disk all of whose blocks are new -/
theorem RetDk.own {B:Nat} {c:Int} {e:Ending} (h:RetDk (fun k=>B<=k) d b S c w e w') (hB:B<=w.heap.size):e=.returned (.int .i64 c)/\(∃ D',DkIn w' (fun k=>B<=k) d S b D')/\Below B w w':=by
 obtain ⟨h1,⟨D',h2⟩,h3⟩:=h;exact ⟨h1,⟨D',h2.mono fun k hk=>by rcases hk with hk | hk;exact hk;exact Nat.le_trans hB hk⟩,h3.below hB fun k hk=>hk⟩
def UE:ByteArray:=⟨#[108,111,103]⟩
def S1:DS:=((⟨[],0,false⟩:DS).append UE [97,98,99]).1
def S2:DS:=(S1.sync UE).1
def S3:DS:=(S2.append UE [100,101]).1
end Go.Proofs.YthphepeniaemoaaGreat
