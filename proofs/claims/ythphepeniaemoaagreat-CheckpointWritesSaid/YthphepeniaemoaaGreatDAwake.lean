/- The disk: Crash. Conditions: as in the text. -/
import Derived.Test.YthphepeniaemoaaGreatDCrash
import Derived.Test.YthphepeniaemoaaGreatLast
import Derived.IntWalk
import Derived.Test.YthphepeniaemoaaGreatDiskN
import Derived.Lib.SlBytesConst
set_option linter.unusedSimpArgs false
set_option linter.unusedVariables false
set_option linter.unnecessarySimpa false
set_option maxHeartbeats 16000000
set_option maxRecDepth 100000
open Go.Proofs.Tryz
namespace Go.Proofs.YthphepeniaemoaaGreat
open Go.RowKit
variable {F:Nat->Prop} {d:Nat} {S:DS} {b:Nat} {D:DataW Unit} {w w':World}
theorem FileAt.cells {w:World} {fb:Nat} {f:DF} (h:FileAt w fb f):∃ a cap,w.cell? ⟨fb,0,none⟩=some (.slice a f.b.length cap)/\w.cell? ⟨fb,1,none⟩=some (.int .i64 f.safe)/\w.frozen? ⟨fb,0,none⟩=false/\w.frozen? ⟨fb,1,none⟩=false:=by
 obtain ⟨a,cap,h1,h2,h3⟩:=h;obtain ⟨p0,p1,f0,f1⟩:=fG h1;exact ⟨a,cap,p0,p1,f0,f1⟩
theorem Pn {ak:Option Addr} {ck:Nat} (ks:Ks) (h:DkIn w F d S b D) (hi:DInv S) (hkl:ks.length<=1048576) (hks:∀ p∈ks,p.1.size<=maxLen/\(Lit.int .i64 p.2).wf=true) (hk:CellsIn w ak (kcs ks)) :
 Calls prog 16 #[.pointer (some ⟨d,0,none⟩),.slice ak ks.length ck] w fun e w'=>e=.returned (.tuple #[])/\DkIn w' F d (S.crash ks) b D/\Fr F w w':=by
 have hmm:=@run_makeMap prog;have hT:=h.tight;have HF:Hid (∀ k,(F k/\k<w.heap.size)->F k):=aq fun k hk=>hk.1;obtain ⟨F0,hF0⟩:∃ F0,F0=fun k=>F k/\k<w.heap.size:=⟨_,rfl⟩;have HT:=aq hT;have H0:=aq hF0;obtain ⟨d0,d1,d2,e0,e1,e2⟩:=dL h.cells;have HC:=aq h.cells;clear h hT hF0;go_enter func16,ntmps16;go_upto_region 2 with fail
 refine aI (fun W hW=>?_);have hcW:DkCells W d b 0 false:=by rw [hW.out];exact qG (nT HC.out _) _
 have hfW:Fr (isR d) w W:=by rw [hW.out];exact (dW _).again (dW _)
 have hkW:=hk.frS hfW (fun k e=>by subst e;exact HC.out.noStr) (Ql ks);have hDW:DkIn W F0 d ⟨S.f,0,false⟩ b D:=by rw [H0.out];exact HT.out.setCells hcW hfW
 have hFW:Fr F w W:=hfW.mono fun k _ e=>by subst e;exact HT.out.fd.1
 clear hW hcW d0 d1 d2 e0 e1 e2 hk;have hmap:=World.ownsMap_made W prog 9 (plainElem (H:=Unit) prog 3);go_wp2;go_loopw [21] (fun i wr=>∃ (k:Nat) (E:DataW Unit),i=.int .i64 k/\k<=ks.length/\KeepMap wr W.heap.size k E/\KeepIs E (ks.take k)/\Below W.heap.size W wr) (fun i _=>ks.length - (intOf i).toNat)
 case atStart=>exact ⟨0,_,rfl,Nat.zero_le _,hmap,fun s=>rfl,(bh _ _).alloc (ar _) _⟩
 case round =>
  obtain ⟨k,E,rfl,hk1,hown,hE,hbw⟩:=hrel;by_cases hlt:k<ks.length
  ·obtain ⟨A,off,rfl,c0,c1⟩:=UD (hkW.kept hbw) hlt
   have HP:=aq (hE.put hown.isMap hlt);obtain ⟨hps,hpw⟩:=hks _ (List.getElem_mem hlt);have hzw:=hbw.size;clear hE;generalize ks[k]=p at c0 c1 HP hps hpw;obtain ⟨pn,pk⟩:=p;simp only at c0 c1 HP hps hpw;have hval:=Qn hpw;have hna:∀ o:Obj,(wr.alloc o).heap[W.heap.size]?=wr.heap[W.heap.size]?:=fun o=>((bh wr.heap.size wr).alloc (ar _) o).block _ hown.lt;go_wp2_with (at_mapUpdate;go_loud (refine wpList_mapUpdate_own _ rfl _ _ _ 110 rfl 9 3 wZ underlying110 (plainElem (H:=Unit) prog 3) W.heap.size k E rfl (hown.keep (hna _)) (by unfold maxLen;omega) _ _ (nk pn) rfl rfl (ou hps) (.lit (.int .i64 pk)) [] hval ?_);intro w3 hown3 hgrow3)
   go_roundw
   case rel=>exact ⟨k+1,_,by go_num,by omega,hown3,HP.out,(hbw.alloc hzw _).grown hgrow3 (by simp;omega) (fun k e=>by simp only [Option.some.injEq] at e;omega)⟩
   case measure => exact z67
  ·have hke:k=ks.length:=by omega
   subst hke;rw [List.take_length] at hE;have hDr:=hDW.below hbw;have HE:=aq hE;have hz0:=hown.lt;have HN:=aq (yP hDr hi.srt hi.len);have Wy:∀ k,F0 k->k<W.heap.size:=fun k hk=>Nat.lt_of_lt_of_le (by rw [H0.out] at hk;exact hk.2) hFW.size;clear hkW hE;obtain ⟨wq,hwq⟩:∃ wq,wq=wr:=⟨_,rfl⟩;subst hwq;go_wp2_with (go_at_call 43;(with_reducible refine HN.out.mono ?_);rintro e w4 ⟨an,cn,rfl,hnm,hb4⟩)
   have hm4:=hown.keep (hb4.block _ hz0);have hD4:=hDr.below hb4;rw [<- Gf S ks] at hD4;have Xq:=hbw.trans (hb4.mono hbw.size);have h8:=hi.len;go_loopw [34] (fun i wr=>∃ k:Nat,i=.int .i64 k/\k<=S.f.length/\KeepMap wr W.heap.size ks.length E/\DkIn wr F0 d (iU S ks k) b D/\CellsIn wr an (iW S.f)/\Fr F0 w4 wr) (fun i _=>S.f.length - (intOf i).toNat)
   case atStart=>exact ⟨0,rfl,Nat.zero_le _,hm4,hD4,hnm,Fr.refl _ _⟩
   case round =>
        obtain ⟨k,rfl,hk1,hmk,hDk,hnk,hfk⟩:=hrel;by_cases hlt:k<S.f.length
        ·obtain ⟨A,off,rfl,c0⟩:=cells_at hnk (k:=k) (by simpa [iW] using hlt)
         simp only [iW,List.getElem_map] at c0;obtain ⟨fb,hF,hat,hfa⟩:=hDk.files.some _ _ (CS hi.srt hlt);have hok:=hi.ok _ (List.getElem_mem hlt);have HLT:=aq hlt;have HST:=aq (Gg (ks:=ks) hi.srt hlt);have HG:=aq (CS (ks:=ks) hi.srt hlt);have hns:S.f[k].name.size<=maxLen:=by have:=sN hok.name;unfold maxLen;omega
         have hkv:=HE.out S.f[k].name;obtain ⟨hsf,hln⟩:S.f[k].safe<=S.f[k].b.length/\S.f[k].b.length<=16777216:=⟨hok.safe,hok.len⟩;clear hok;generalize S.f[k]=f at c0 hat hfa HST HG hns hkv hsf hln;obtain ⟨v1,ps1,hrun1,hv1⟩:=hDk.own.lookup wZ underlying69 (Ad _) (zd:=.nil) (zp:=[]) rfl (ou hns);rw [hat] at hv1;obtain rfl:=EM hv1;obtain ⟨c,hrun2,hc2,hwc⟩:=hmk.lookup_int wZ underlying110 underlying3 (by kernel_rfl) (ou hns);rw [hkv] at hc2;obtain rfl:kR ks f.name=c:=by simpa using hc2
         obtain ⟨d0,d1,d2,e0,e1,e2⟩:=dL hDk.cells;obtain ⟨af,cf,x0,x1,y0,y1⟩:=hfa.cells;clear hc2 hkv hv1;go_upto_region 12 with fail
         obtain ⟨r,hr⟩:∃ r,f.safe+r=f.b.length:=⟨f.b.length - f.safe,by omega⟩;obtain ⟨m,hm⟩:∃ m,m=yM (kR ks f.name) r:=⟨_,rfl⟩;have hmr:m<=r:=by rw [hm];exact EY _ _
         have hrr:f.b.length - f.safe=r:=by omega
         have hsub:(f.b.length:Int) - (f.safe:Int)=(r:Int):=by omega
         obtain ⟨tb,htb⟩:∃ tb,tb=f.b.take (f.safe+m):=⟨_,rfl⟩;have htl:tb.length=f.safe+m:=by rw [htb];simp;omega
         have HCR:Hid (jf ks f=⟨f.name,tb,tb.length⟩):=aq (by unfold jf;rw [hrr,<- hm,htl,htb]);have VL:min (max (kR ks f.name) 0) (r:Int)=(m:Int):=by rw [hm];unfold yM;split <;> omega
         have hw1:IntKind.i64.wrap (r:Int)=r:=IntWalk.i64_in _ (by omega);have hw2:IntKind.i64.wrap ((f.safe:Int)+min (max (kR ks f.name) 0) (IntKind.i64.wrap (r:Int)))=((f.safe+m:Nat):Int):=by rw [hw1,VL,Int.natCast_add];exact IntWalk.i64_in _ (by omega)
         have Xy:Hid (∀ X,FileAt X fb f->Calls prog 48 #[.pointer (some ⟨fb,0,none⟩),.int .i64 (IntKind.i64.wrap ((f.safe:Int)+min (max (kR ks f.name) 0) (IntKind.i64.wrap (r:Int))))] X fun e w'=>e=.returned (.tuple #[])/\FileAt w' fb { f with b:=tb }/\Fr (isR fb) X w'):=aq fun X hX=>by
          have:=Tn (n:=f.safe+m) (by omega) (by omega) hX;rw [<- htb] at this;rw [hw2];exact this
         clear VL hw1 hw2 hm;replace hfa:FileAt wr.drew fb f:=hfa;have HFA:=aq hfa;replace hmk:KeepMap wr.drew W.heap.size ks.length E:=hmk;replace hDk:DkIn wr.drew F0 d (iU S ks k) b D:=hDk.below (bh _ _).drew;replace hnk:CellsIn wr.drew (some ⟨A,off,none⟩) (iW S.f):=hnk;replace hfk:Fr F0 w4 wr.drew:=hfk.again (Fr.of_below (bh _ _).drew);obtain ⟨c,hrun2,hc2,hwc⟩:=hmk.lookup_int wZ underlying110 underlying3 (by kernel_rfl) (ou hns);rw [HE.out] at hc2;obtain rfl:kR ks f.name=c:=by simpa using hc2
         clear x0 x1 y0 y1 htb htl hrr hc2;obtain ⟨af,cf,x0,x1,y0,y1⟩:=hfa.cells;generalize kR ks f.name=N at *;refine wp_region_noPanic ?_;refine bH (fun W'=>W'.cell? ⟨fb,0,none⟩=some (.slice af f.b.length cf)/\W'.cell? ⟨fb,1,none⟩=some (.int .i64 f.safe)/\(Instr.lookup 110 (.map (some W.heap.size)) (.string f.name) false).run prog W'=.ok (.int .i64 N) W') [24] (by kernel_rfl) ?_;have hS:=ba x0 (ba x1 hrun2);refine tL (v:=?_) 0 44 rfl (bb ⟨by rfl,?_⟩) ?_
         case refine_2 => exact z26
         try simp only [pS]
         refine tL (v:=?_) 1 45 rfl (bb ⟨by rfl,?_⟩) ?_
         case refine_2 => exact z26
         try simp only [pS]
         refine tL (v:=?_) 2 46 rfl (bb ⟨by rfl,?_⟩) ?_
         case refine_2 => exact z26
         try simp only [pS]
         refine tL (v:=?_) 3 47 rfl (bb ⟨by rfl,?_⟩) ?_
         case refine_2 => exact z26
         try simp only [pS]
         refine tL (v:=?_) 4 48 rfl (bb ⟨by rfl,?_⟩) ?_
         case refine_2 => exact z26
         try simp only [pS]
         refine tL (v:=?_) 5 49 rfl (bb ⟨by rfl,?_⟩) ?_
         case refine_2 => exact z26
         try simp only [pS]
         refine tL (v:=?_) 6 50 rfl (bb ⟨by rfl,?_⟩) ?_
         case refine_2 => exact z26
         try simp only [pS]
         refine tL (v:=?_) 7 51 rfl (bb ⟨by rfl,?_⟩) ?_
         case refine_2 => exact z26
         try simp only [pS]
         refine tL (v:=?_) 8 52 rfl (bb ⟨by rfl,?_⟩) ?_
         case refine_2 => exact z26
         try simp only [pS]
         refine tL (v:=?_) 9 53 rfl (bb ⟨by rfl,?_⟩) ?_
         case refine_2 => exact z26
         try simp only [pS]
         refine tL (v:=?_) 10 54 rfl (bb ⟨by rfl,?_⟩) ?_
         case refine_2 => exact z26
         try simp only [pS]
         refine tL (v:=?_) 11 55 rfl (bb ⟨by rfl,?_⟩) ?_
         case refine_2 => exact z26
         try simp only [pS]
         refine tL (v:=?_) 12 56 rfl (bb ⟨by rfl,?_⟩) ?_
         case refine_2 => exact z26
         try simp only [pS]
         refine tL (v:=?_) 13 57 rfl (bb ⟨by rfl,?_⟩) ?_
         case refine_2 => exact z26
         try simp only [pS]
         refine tL (v:=?_) 14 58 rfl (bb ⟨by rfl,?_⟩) ?_
         case refine_2 => exact z26
         try simp only [pS]
         refine tL (v:=?_) 15 59 rfl (bb ⟨by rfl,?_⟩) ?_
         case refine_2 => exact z26
         try simp only [pS]
         refine tL (v:=?_) 16 60 rfl (bb ⟨by rfl,?_⟩) ?_
         case refine_2 => exact z26
         try simp only [pS]
         refine tL (v:=?_) 17 61 rfl (bb ⟨by rfl,?_⟩) ?_
         case refine_2 => exact z26
         try simp only [pS]
         refine tL (v:=?_) 18 62 rfl (bb ⟨by rfl,?_⟩) ?_
         case refine_2 => exact z26
         try simp only [pS]
         refine tL (v:=?_) 19 63 rfl (bb ⟨by rfl,?_⟩) ?_
         case refine_2 => exact z26
         try simp only [pS]
         refine tL (v:=?_) 20 64 rfl (bb ⟨by rfl,?_⟩) ?_
         case refine_2 => exact z26
         try simp only [pS]
         refine tL (v:=?_) 21 65 rfl (bb ⟨by rfl,?_⟩) ?_
         case refine_2 => exact z26
         try simp only [pS]
         refine tL (v:=?_) 22 66 rfl (bb ⟨by rfl,?_⟩) ?_
         case refine_2 => exact z26
         try simp only [pS]
         refine tL (v:=?_) 23 67 rfl (bb ⟨by rfl,?_⟩) ?_
         case refine_2 => exact z26
         try simp only [pS]
         refine bD (i:=24) (o:=⟨some 68,_,_,_,_,_⟩) (by kernel_rfl) rfl ?_;intro K hK;go_simp;go_at_call 48;(with_reducible refine (Xy.out _ HFA.out).mono ?_)
         rintro e w5 ⟨rfl,VX,hf5⟩;go_simp
         refine y66 ?_
         clear hK K
         refine jZ (by kernel_rfl) ?_ _;refine NoPanic.normal ?_;obtain ⟨a5,c5,z0,z1,t0,t1⟩:=VX.cells;have HFL:=aq (Wy fb hF);clear hrun1 hrun2 x0 x1 y0 y1 hS d0 d1 d2 e0 e1 e2 c0;go_wp2;go_roundw
         case rel =>
          have hf6:Fr (isR fb) wr.drew (w5.setCell ⟨fb,1,none⟩ (.int .i64 tb.length)):=hf5.again (dW _);have Xj:FileAt (w5.setCell ⟨fb,1,none⟩ (.int .i64 tb.length)) fb (jf ks f):=by rw [HCR.out];exact VX.setSafe _
          have hD6:=DkIn.setFile (g:=f) (f:=jf ks f) hDk HG.out hat rfl Xj HFA.out hf6;have he:({ iU S ks k with f:=jO (iU S ks k).f (jf ks f) }:DS)=iU S ks (k+1):=by rw [HST.out];rfl
          rw [he] at hD6;have hlt2:=HLT.out;have XV:=HFL.out;exact ⟨k+1,by go_num,by omega,hmk.keep (hf6.block _ hmk.lt (fun e=>by have:=HFL.out;simp only [isR] at e;omega)),hD6,hnk.frS hf6 (fun q hq=>by subst hq;exact HFA.out.noStr) (DD _),hfk.again (hf6.mono fun q _ hq=>by subst hq;exact hF)⟩
         case measure=>have hlt2:=HLT.out;simp [intOf] <;> omega
        ·have hke:k=S.f.length:=by omega
         subst hke;rw [I5] at hDk;have hFF:Fr F w wr:=(hFW.again (Fr.of_below Xq)).again (hfk.mono fun q _ hq=>by rw [H0.out] at hq;exact hq.1);have hDF:=hDk.mono (G:=F) fun q hq=>by rw [H0.out] at hq;exact hq.1
         go_wp2;all_goals
          go_end0;exact ⟨rfl,hDF,hFF⟩
theorem BytesIn.cells {w:World} {a:Option Addr} {l:Bytes} (h:BytesIn w a l):CellsIn w a (aA l):=by
 rcases h with rfl | ⟨A,off,h1,h2⟩
 ·exact bb rfl
 ·refine bd ⟨A,off,h1,fun j v hv=>?_⟩
  have:=h2.news j v hv;rwa [Addr.add_mid] at this
theorem yX {w:World} {base:Nat} {v:Value} {n:Nat} {l:Bytes} (h:w.ownsRow base 5 1 v n (aA l)):∃ a cap,v=.slice a l.length cap/\BytesIn w a l/\l.length<=cap:=by
 have hn:n=l.length:=by have:=h.1;rw [aU] at this;omega
 subst hn;obtain ⟨a,cap,h1,h2,h3⟩:=fP h;refine ⟨a,cap,h1,?_,h3⟩;rcases h2 with h2 | ⟨A,off,h2,h4⟩
 ·left
  have:=congrArg List.length h2;rw [aU] at this;exact List.length_eq_zero_iff.1 this
 ·exact bd ⟨A,off,h2,fun j hj=>h4 j _ (by simp [aA,hj])⟩
theorem QB {l:List DF} {s:ByteArray} {f:DF} {c:Int} (hE:kT l s=(f,c)) (hlb:∀ f,bY l s=some f->f.b.length<=16777216):f.b.length<=16777216:=by
 unfold kT at hE;by_cases hok:bK s=true
 ·rw [if_pos hok] at hE
  cases hg:bY l s with
  | none=>rw [hg] at hE;simp only [Prod.mk.injEq] at hE;rw [<- hE.1];simp
  | some f'=>rw [hg] at hE;simp only [Prod.mk.injEq] at hE;rw [<- hE.1];exact hlb f' hg
 ·rw [if_neg hok] at hE;simp only [Prod.mk.injEq] at hE;rw [<- hE.1];simp
theorem KU {l:List DF} {s:ByteArray} {f:DF} {c:Int} (hE:kT l s=(f,c)):c=0\/c=1\/c=10:=by
 unfold kT at hE;by_cases hok:bK s=true
 ·rw [if_pos hok] at hE
  cases hg:bY l s with
  | none=>rw [hg] at hE;simp only [Prod.mk.injEq] at hE;omega
  | some f'=>rw [hg] at hE;simp only [Prod.mk.injEq] at hE;omega
 ·rw [if_neg hok] at hE;simp only [Prod.mk.injEq] at hE;omega
theorem Jm {l:List DF} {arm:Nat} {down:Bool} {s:ByteArray} {f:DF} {b:Bytes} (hE:kT l s=(f,1)):DS.append ⟨l,arm,down⟩ s b=(⟨l,arm,down⟩,1):=by
 unfold kT at hE;unfold DS.append;by_cases hok:bK s=true
 ·rw [if_pos hok] at hE
  cases hg:bY l s with
  | none=>rw [hg] at hE;simp at hE
  | some f'=>rw [hg] at hE;simp at hE
 ·rw [if_neg hok]
theorem Jl {l:List DF} {arm:Nat} {down:Bool} {s:ByteArray} {f:DF} {b:Bytes} (hE:kT l s=(f,10)) (h8:8<=l.length):DS.append ⟨l,arm,down⟩ s b=(⟨l,arm,down⟩,9):=by
 unfold kT at hE;unfold DS.append;by_cases hok:bK s=true
 ·rw [if_pos hok] at hE ⊢
  cases hg:bY l s with
  | none=>simp only [if_pos h8]
  | some f'=>rw [hg] at hE;simp at hE
 ·rw [if_neg hok] at hE;simp at hE
theorem O1 {l:List DF} {arm:Nat} {down:Bool} {s:ByteArray} {f:DF} {c:Int} {b:Bytes} (hE:kT l s=(f,c)) (hc:(c=10/\l.length<8)\/c=0) :
 DS.append ⟨l,arm,down⟩ s b=if 16777216<f.b.length+b.length then (⟨l,arm,down⟩,9) else if chg arm down then (⟨l,arm - 1,true⟩,12) else (⟨kK l { f with b:=f.b++b },arm - 1,false⟩,0):=by
 unfold kT at hE;unfold DS.append;have hch:∀ (x y:DS×Int),(if (DS.change ⟨l,arm,down⟩).down then ((DS.change ⟨l,arm,down⟩),(12:Int)) else x)=if chg arm down then (⟨l,arm - 1,true⟩,12) else x:=fun x y=>by
  unfold DS.change chg
  cases h:(down || decide (arm=1)) <;> simp [h]
 have Xm:∀ (x:List DF),chg arm down=false->({ DS.change ⟨l,arm,down⟩ with f:=x }:DS)=⟨x,arm - 1,false⟩:=fun x h=>by
  unfold DS.change;unfold chg at h;simp [h]
 have key:∀ (x:List DF),(if chg arm down then ((⟨l,arm - 1,true⟩:DS),(12:Int)) else ({ DS.change ⟨l,arm,down⟩ with f:=x },0))=if chg arm down then (⟨l,arm - 1,true⟩,12) else (⟨x,arm - 1,false⟩,0):=fun x=>by
  by_cases h:chg arm down=true
  ·rw [if_pos h,if_pos h]
  ·rw [if_neg h,if_neg h,Xm x (Bool.eq_false_iff.2 h)]
 by_cases hok:bK s=true
 ·rw [if_pos hok] at hE ⊢
  cases hg:bY l s with
  | none =>
    rw [hg] at hE;simp only [Prod.mk.injEq] at hE;obtain ⟨rfl,rfl⟩:=hE;have h8:¬ 8<=l.length:=by omega
    simp only [if_neg h8,List.length_nil,aw,List.nil_append];rw [hch _ (⟨[],0,false⟩,0),key]
  | some f' =>
    rw [hg] at hE;simp only [Prod.mk.injEq] at hE;obtain ⟨rfl,rfl⟩:=hE;simp only;rw [hch _ (⟨[],0,false⟩,0),key]
 ·rw [if_neg hok] at hE
  simp only [Prod.mk.injEq] at hE;omega
theorem z18 {p : Prop} (h : p := by
 clear hE
 go_enter func35, ntmps35
 go_upto_region 1 with fail
 refine y5 ?_
 clear h
 intro W hb0 hD hZ H0 h d0 d1 d2 e0 e1 e2
 go_upto_region 2 with (go_at_call 73; (with_reducible refine (HG.out _ h).mono ?_); rintro e w1 ⟨ag, cg, rfl, hgo, hb1⟩)
 refine y1 ?_
 clear hgo hb0 hD hZ h hb1 d0 d1 d2 e0 e1 e2
 intro W1 hX hz1 hgo hb0 hD hZ h d0 d1 d2 e0 e1 e2
 obtain ⟨x0, x1, x2, y0, y1, y2⟩ := hX.cells
 go_wp2_with (refine wpList_store_row rfl 29 _ _ rfl (w.heap.size + 1) #[.slice a l.length cap, .int .i64 arm, .bool down] rfl rfl 29 _ hZ (by kernel_rfl) rfl (by kernel_rfl) ?_)
 refine og 6 7 29 29 (w.heap.size + 1) _ _ _ rfl rfl rfl (hZ.row _ _ _) underlying29 rfl (by kernel_rfl) rfl ?_
 exact ⟨a, l, cap, rfl, H0.out.kept (dG hb0 (Nat.le_succ _) _), hlc, rfl, dG hb0 (Nat.le_succ _) _⟩) : p := h
theorem Hr (a a2:Option Addr) (cap cap2 arm:Nat) (down:Bool) (l:List RF) (s:ByteArray) (b:Bytes) (w:World) (hl:l.length<=16777216) (hlc:l.length<=cap) (ha:arm<=1048576) (hs:s.size<=maxLen)
 (hlb:∀ f,bY (bJ l) s=some f->f.b.length<=16777216) (hbl:b.length<=1073741824) (h:RFsIn w a l) (hin:BytesIn w a2 b) :
 Calls prog 35 #[je a l.length cap arm down,.string s,.slice a2 b.length cap2] w (uX (DS.append ⟨bJ l,arm,down⟩ s b).1 (DS.append ⟨bJ l,arm,down⟩ s b).2 w):=by
 obtain ⟨f,c,hE⟩:∃ f c,kT (bJ l) s=(f,c):=⟨_,_,rfl⟩;have HG:=aq (fun (X:World) (h:RFsIn X a l)=>zV (cap:=cap) hE (by omega) hs h);have hfl:f.b.length<=16777216:=QB hE hlb;have hcs:=KU hE;clear hlb;by_cases hc1:c=1
 case pos =>
  subst hc1;rw [Jm hE]
  exact z18
 case neg =>
 by_cases hc8:c=10/\8<=l.length
 case pos =>
  obtain ⟨rfl,h8⟩:=hc8;rw [Jl hE (by rw [List.length_map];exact h8)];have h8i:(8:Int)<=(l.length:Int):=by omega
  exact z18
 case neg =>
 have hgo0:(c=10/\(bJ l).length<8)\/c=0:=by
  rw [List.length_map];by_cases h10:c=10
  ·exact bb ⟨h10,by omega⟩
  ·exact bd (by omega)
 rw [O1 hE hgo0];have hcase:(c=10/\l.length<8)\/c=0:=by rw [List.length_map] at hgo0;exact hgo0
 clear hgo0 hc8 hc1 hE hcs;by_cases hbig:16777216<f.b.length+b.length
 case pos =>
  rw [if_pos hbig];have hbi:(16777216:Int)<(f.b.length:Int)+(b.length:Int):=by omega
  rcases hcase with ⟨rfl,h8⟩ | rfl
  case' inl=>have h8i:¬ ((8:Int)<=(l.length:Int)):=by omega
  all_goals
   go_enter func35,ntmps35;go_upto_region 1 with fail
   refine aI (fun W hW=>?_);have hb0:Below w.heap.size w W:=by rw [hW.out];go_grown
   have hD:B3 W w.heap.size 29 (.slice a l.length cap) (.int .i64 arm) (.bool down):=by
        exact z64
   have hZ:B3 W (w.heap.size+1) 29 (.slice none 0 0) (.int .i64 0) (.bool false):=by rw [hW.out];exact eY w _ _
   have H0:=aq h;replace h:=h.kept hb0;clear hW;obtain ⟨d0,d1,d2,e0,e1,e2⟩:=hD.cells;go_upto_region 4 with (go_at_call 73;(with_reducible refine (HG.out _ h).mono ?_);rintro e w1 ⟨ag,cg,rfl,hgo,hb1⟩)
   refine aI (fun W1 hW1=>?_);have hX:B3 W1 w1.heap.size 106 (.string f.name) (.slice ag f.b.length cg) (.int .i64 f.safe):=by rw [hW1.out];exact aY w1 _
   have hbw:Below W.heap.size W W1:=by rw [hW1.out];exact hb1.alloc hb1.size _
   have hb2:Below w1.heap.size w1 W1:=by rw [hW1.out];exact (bh _ _).alloc (ar _) _
   have hz1:w.heap.size+1<w1.heap.size:=Nat.lt_of_lt_of_le hZ.lt hb1.size;replace hgo:=hgo.kept hb2;replace hb0:=below2 hb0 hbw;replace hD:=hD.below hbw;replace hZ:=hZ.below hbw;replace h:=h.kept hbw;clear hW1 hb1 hb2 hbw d0 d1 d2 e0 e1 e2;obtain ⟨d0,d1,d2,e0,e1,e2⟩:=hD.cells;obtain ⟨x0,x1,x2,y0,y1,y2⟩:=hX.cells;go_wp2_with (refine wpList_store_row rfl 29 _ _ rfl (w.heap.size+1) #[.slice a l.length cap,.int .i64 arm,.bool down] rfl rfl 29 _ hZ (by kernel_rfl) rfl (by kernel_rfl) ?_)
   refine og 6 7 29 29 (w.heap.size+1) _ _ _ rfl rfl rfl (hZ.row _ _ _) underlying29 rfl (by kernel_rfl) rfl ?_;exact ⟨a,l,cap,rfl,H0.out.kept (dG hb0 (Nat.le_succ _) _),hlc,rfl,dG hb0 (Nat.le_succ _) _⟩
 case neg =>
 rw [if_neg hbig];have hbi:¬ ((16777216:Int)<(f.b.length:Int)+(b.length:Int)):=by omega
 by_cases hch:chg arm down=true
 case pos =>
  rw [if_pos hch];have HC:=aq hch;clear hch;rcases hcase with ⟨rfl,h8⟩ | rfl
  case' inl=>have h8i:¬ ((8:Int)<=(l.length:Int)):=by omega
  all_goals
   go_enter func35,ntmps35;go_upto_region 1 with fail
   refine aI (fun W hW=>?_);have hb0:Below w.heap.size w W:=by rw [hW.out];go_grown
   have hD:B3 W w.heap.size 29 (.slice a l.length cap) (.int .i64 arm) (.bool down):=by
        exact z64
   have hZ:B3 W (w.heap.size+1) 29 (.slice none 0 0) (.int .i64 0) (.bool false):=by rw [hW.out];exact eY w _ _
   have H0:=aq h;replace h:=h.kept hb0;clear hW;obtain ⟨d0,d1,d2,e0,e1,e2⟩:=hD.cells;go_upto_region 4 with (go_at_call 73;(with_reducible refine (HG.out _ h).mono ?_);rintro e w1 ⟨ag,cg,rfl,hgo,hb1⟩)
   refine aI (fun W1 hW1=>?_);have hX:B3 W1 w1.heap.size 106 (.string f.name) (.slice ag f.b.length cg) (.int .i64 f.safe):=by rw [hW1.out];exact aY w1 _
   have hbw:Below W.heap.size W W1:=by rw [hW1.out];exact hb1.alloc hb1.size _
   have hb2:Below w1.heap.size w1 W1:=by rw [hW1.out];exact (bh _ _).alloc (ar _) _
   have hz1:w.heap.size+1<w1.heap.size:=Nat.lt_of_lt_of_le hZ.lt hb1.size;replace hgo:=hgo.kept hb2;replace hb0:=below2 hb0 hbw;replace hD:=hD.below hbw;replace hZ:=hZ.below hbw;replace h:=h.kept hbw;clear hW1 hb1 hb2 hbw d0 d1 d2 e0 e1 e2;obtain ⟨d0,d1,d2,e0,e1,e2⟩:=hD.cells;obtain ⟨x0,x1,x2,y0,y1,y2⟩:=hX.cells;go_upto_region 8 with fail
   clear x0 x1 x2 y0 y1 y2;go_upto_region 9 with (go_at_call 74;(with_reducible refine (jo _ _ _ _ _ _ ha).mono ?_);rw [HC.out];rintro e w2 ⟨rfl,hb1⟩)
   refine aI (fun W2 hW2=>?_);have hY:B3 W2 w2.heap.size 29 (.slice a l.length cap) (.int .i64 ((arm - 1:Nat):Int)) (.bool true):=by rw [hW2.out];exact aY w2 _
   have hbw:Below W1.heap.size W1 W2:=by rw [hW2.out];exact hb1.alloc hb1.size _
   have hz2:w1.heap.size<w2.heap.size:=Nat.lt_of_lt_of_le hX.lt hb1.size;replace hgo:=hgo.kept hbw;replace hb0:=below2 hb0 hbw;replace hD:=hD.below hbw;replace hZ:=hZ.below hbw;replace hX:=hX.below hbw;replace h:=h.kept hbw;clear hW2 hb1 hbw d0 d1 d2 e0 e1 e2 hD;obtain ⟨d0,d1,d2,e0,e1,e2⟩:=hY.cells;obtain ⟨x0,x1,x2,y0,y1,y2⟩:=hX.cells;go_wp2_with (refine wpList_store_row rfl 29 _ _ rfl (w.heap.size+1) #[.slice a l.length cap,.int .i64 ((arm - 1:Nat):Int),.bool true] rfl rfl 29 _ hZ (by kernel_rfl) rfl (by kernel_rfl) ?_)
   refine og 6 7 29 29 (w.heap.size+1) _ _ _ rfl rfl rfl (hZ.row _ _ _) underlying29 rfl (by kernel_rfl) rfl ?_;exact ⟨a,l,cap,rfl,H0.out.kept (dG hb0 (Nat.le_succ _) _),hlc,rfl,dG hb0 (Nat.le_succ _) _⟩
 case neg =>
  rw [if_neg hch];have HC:=aq (Bool.eq_false_iff.2 hch);clear hch;obtain ⟨iu,hiu,VE,VD,VC⟩:=info_parts Tryz.infoByte;obtain ⟨fb,hfb⟩:∃ fb,f.b++b=fb:=⟨_,rfl⟩;rw [hfb];have HFB:=aq hfb;clear hfb;have H1:=aq hin;rcases hcase with ⟨rfl,h8⟩ | rfl
  case' inl=>have h8i:¬ ((8:Int)<=(l.length:Int)):=by omega
  all_goals
   go_enter func35,ntmps35;go_upto_region 1 with fail
   refine aI (fun W hW=>?_);have hb0:Below w.heap.size w W:=by rw [hW.out];go_grown
   have hD:B3 W w.heap.size 29 (.slice a l.length cap) (.int .i64 arm) (.bool down):=by
        exact z64
   have hZ:B3 W (w.heap.size+1) 29 (.slice none 0 0) (.int .i64 0) (.bool false):=by rw [hW.out];exact eY w _ _
   have H0:=aq h;replace h:=h.kept hb0;clear hW;obtain ⟨d0,d1,d2,e0,e1,e2⟩:=hD.cells;go_upto_region 4 with (go_at_call 73;(with_reducible refine (HG.out _ h).mono ?_);rintro e w1 ⟨ag,cg,rfl,hgo,hb1⟩)
   refine aI (fun W1 hW1=>?_);have hX:B3 W1 w1.heap.size 106 (.string f.name) (.slice ag f.b.length cg) (.int .i64 f.safe):=by rw [hW1.out];exact aY w1 _
   have hbw:Below W.heap.size W W1:=by rw [hW1.out];exact hb1.alloc hb1.size _
   have hb2:Below w1.heap.size w1 W1:=by rw [hW1.out];exact (bh _ _).alloc (ar _) _
   have hz1:w.heap.size+1<w1.heap.size:=Nat.lt_of_lt_of_le hZ.lt hb1.size;replace hgo:=hgo.kept hb2;replace hb0:=below2 hb0 hbw;replace hD:=hD.below hbw;replace hZ:=hZ.below hbw;replace h:=h.kept hbw;clear hW1 hb1 hb2 hbw d0 d1 d2 e0 e1 e2;obtain ⟨d0,d1,d2,e0,e1,e2⟩:=hD.cells;obtain ⟨x0,x1,x2,y0,y1,y2⟩:=hX.cells;go_upto_region 8 with fail
   clear x0 x1 x2 y0 y1 y2;go_upto_region 9 with (go_at_call 74;(with_reducible refine (jo _ _ _ _ _ _ ha).mono ?_);rw [HC.out];rintro e w2 ⟨rfl,hb1⟩)
   refine aI (fun W2 hW2=>?_);have hY:B3 W2 w2.heap.size 29 (.slice a l.length cap) (.int .i64 ((arm - 1:Nat):Int)) (.bool false):=by rw [hW2.out];exact aY w2 _
   have hbw:Below W1.heap.size W1 W2:=by rw [hW2.out];exact hb1.alloc hb1.size _
   have hz2:w1.heap.size<w2.heap.size:=Nat.lt_of_lt_of_le hX.lt hb1.size;replace hgo:=hgo.kept hbw;replace hb0:=below2 hb0 hbw;replace hD:=hD.below hbw;replace hZ:=hZ.below hbw;replace hX:=hX.below hbw;replace h:=h.kept hbw;clear hW2 hb1 hbw d0 d1 d2 e0 e1 e2 hD;obtain ⟨d0,d1,d2,e0,e1,e2⟩:=hY.cells;obtain ⟨x0,x1,x2,y0,y1,y2⟩:=hX.cells;have V9:=H1.out.kept hb0;have hfin:=hgo.bytes;have hown0:(W2.alloc (Obj.cells #[] 5)).ownsRow W2.heap.size 5 1 (.slice (some ⟨W2.heap.size,0,none⟩) 0 0) 0 []:=World.ownsRow_made _ _ _ (ar _) (by decide) rfl;have x1a:=fun o=>kept ((bh _ W2).alloc (ar _) o) x1;go_upto_region 12 with (first
        | (at_builtin;go_loud (refine jM rfl (.tmp 48) (.tmp 50) 54 rfl W2.heap.size 5 iu _ 1 1 underlying54 hiu VE VD VC rfl (by decide) _ 0 [] rfl hown0 ag f.b.length cg (aA f.b) rfl (by rw [aU];omega) (hfin.kept ((bh _ _).alloc (ar _) _)).cells (bI _) (by unfold maxLen;omega) (by omega) (by simp) ?_);intro v5 w5 hown5 hg5;have hq5:Below W2.heap.size W2 w5:=(((bh _ _).alloc (ar _) _).grown hg5 (by simp) (fun k hk=>(hown0.lt k hk).1)))
        | (at_builtin;go_loud (refine jM rfl (.tmp 51) (.tmp 52) 54 rfl W2.heap.size 5 iu _ 1 1 underlying54 hiu VE VD VC rfl (by decide) _ (0+f.b.length) _ rfl hown5 a2 b.length cap2 (aA b) rfl (by rw [aU];omega) (V9.kept hq5).cells (bI _) (by unfold maxLen;omega) (by omega) hq5.size ?_);intro v6 w6 hown6 hg6;have hq6:Below W2.heap.size W2 w6:=hq5.grown hg6 hq5.size (fun k hk=>(hown5.lt k hk).1);replace hX:=hX.below hq6;replace hY:=hY.below hq6;replace hZ:=hZ.below hq6;replace hb0:=below2 hb0 hq6;clear d0 d1 d2 e0 e1 e2 x0 x1 x2 y0 y1 y2 x1a;obtain ⟨x0,x1,x2,y0,y1,y2⟩:=hX.cells;have ql:w6.ownsRow W2.heap.size 5 1 v6 _ (aA fb):=(by rw [<- HFB.out,bG];exact hown6);obtain ⟨a6,c6,rfl,hb6,hc6⟩:=yX ql;clear ql))
   refine aI (fun W3 hW3=>?_);have hX4:B3 W3 w1.heap.size 106 (.string f.name) (.slice a6 fb.length c6) (.int .i64 f.safe):=by rw [hW3.out];exact hX.set1 _
   have hY4:B3 W3 w2.heap.size 29 (.slice a l.length cap) (.int .i64 ((arm - 1:Nat):Int)) (.bool false):=by rw [hW3.out];exact hY.other _ (Nat.ne_of_lt hz2)
   have hZ4:B3 W3 (w.heap.size+1) 29 (.slice none 0 0) (.int .i64 0) (.bool false):=by rw [hW3.out];exact hZ.other _ (Nat.ne_of_gt hz1)
   have Xf:RFOk W3 ⟨⟨f.name,fb,f.safe⟩,a6,c6⟩:=⟨by rw [hW3.out];exact hb6.fr (S:=isR w1.heap.size) (dW _) (fun k hk=>by subst hk;exact hX.noByte ⟨trivial,trivial,trivial⟩),hc6⟩;have hb4:Below w.heap.size w W3:=by rw [hW3.out];exact nO hb0 (by simp only;omega) _
   clear hW3 hX hY hZ hgo hb0 h x0 x1 x2 y0 y1 y2 hown6 hg6 hown5 hg5 hown0 V9 hfin hq5 hq6 hb6;have h4:=H0.out.kept hb4;obtain ⟨d0,d1,d2,e0,e1,e2⟩:=hY4.cells;obtain ⟨x0,x1,x2,y0,y1,y2⟩:=hX4.cells;go_upto_region 13 with (go_at_call 76;(with_reducible refine (AC a cap l ⟨⟨f.name,fb,f.safe⟩,a6,c6⟩ _ (by omega) hlc h4 Xf).mono ?_);rintro e w4 ⟨a4,c4,rfl,oC,hc4,hb5⟩;have hY3:=hY4.below hb5;have hZ3:=hZ4.below hb5;have hb3:=below2 hb4 hb5;clear d0 d1 d2 e0 e1 e2 x0 x1 x2 y0 y1 y2 hY4 hZ4 hb4;obtain ⟨d0,d1,d2,e0,e1,e2⟩:=hY3.cells)
   refine aI (fun W5 hW5=>?_);have hY5:B3 W5 w2.heap.size 29 (.slice a4 (qg l ⟨⟨f.name,fb,f.safe⟩,a6,c6⟩).length c4) (.int .i64 ((arm - 1:Nat):Int)) (.bool false):=by rw [hW5.out];exact hY3.set0 _
   have hZ5:B3 W5 (w.heap.size+1) 29 (.slice none 0 0) (.int .i64 0) (.bool false):=by rw [hW5.out];exact hZ3.other _ (by simp only;omega)
   have hb5:Below w.heap.size w W5:=by rw [hW5.out];exact nO hb3 (by simp only;omega) _
   have vH:RFsIn W5 a4 (qg l ⟨⟨f.name,fb,f.safe⟩,a6,c6⟩):=by rw [hW5.out];exact oC.fr (T:=isR w2.heap.size) (dW _) (fun k hk=>by subst hk;exact ⟨hY3.noByte ⟨trivial,trivial,trivial⟩,hY3.noStr ⟨trivial,trivial,trivial⟩⟩)
   clear hW5 hY3 hZ3 hb3 oC d0 d1 d2 e0 e1 e2;obtain ⟨d0,d1,d2,e0,e1,e2⟩:=hY5.cells;go_wp2_with (refine wpList_store_row rfl 29 _ _ rfl (w.heap.size+1) #[.slice a4 (qg l ⟨⟨f.name,fb,f.safe⟩,a6,c6⟩).length c4,.int .i64 ((arm - 1:Nat):Int),.bool false] rfl rfl 29 _ hZ5 (by kernel_rfl) rfl (by kernel_rfl) ?_)
   refine og 6 7 29 29 (w.heap.size+1) _ _ _ rfl rfl rfl (hZ5.row _ _ _) underlying29 rfl (by kernel_rfl) rfl ?_;refine ⟨a4,_,c4,rfl,?_,hc4,sG _ _,dG hb5 (Nat.le_succ _) _⟩;exact vH.fr (T:=isR (w.heap.size+1)) (lC _ _ _) (fun k hk=>by subst hk;exact ⟨hZ5.noByte ⟨trivial,trivial,trivial⟩,hZ5.noStr ⟨trivial,trivial,trivial⟩⟩)
variable {F:Nat->Prop} {d:Nat} {S:DS} {b:Nat} {D:DataW Unit} {w w':World}
theorem xM {l:List DF} {k:Nat} (hs:Srt l) (h:k<l.length):bY l l[k].name=some l[k]:=by
 obtain ⟨f,hf⟩:=Option.isSome_iff_exists.1 (pO.2 ⟨l[k],List.getElem_mem h,rfl⟩);rw [hf];congr 1
 exact PH hs (lY hf) (List.getElem_mem h) (lw hf)
theorem Qb {w:World} {b n:Nat} {D:DataW Unit} (h:w.ownsMap prog 9 jL b n D):zF w b:=by
 obtain ⟨es,cl,hb,_⟩:=h;intro o s e;simp [World.cell?,hb] at e
variable {F:Nat->Prop} {d:Nat} {S:DS} {b:Nat} {D:DataW Unit} {s:ByteArray} {w w':World}
theorem LY {a2:Option Addr} {l:Bytes} {cap2:Nat} (hs:s.size<=maxLen) (h:DkIn w F d S b D) (hi:DInv S) (hl:l.length<=1073741824) (hin:BytesIn w a2 l) :
 Calls prog 28 #[.pointer (some ⟨d,0,none⟩),.string s,.slice a2 l.length cap2] w (RetDk F d b (S.append s l).1 (S.append s l).2 w):=by
 by_cases hok:bK s=true
 ·cases hg:bY S.f s with
  | none=>exact Jy hs h hi.srt.uniq hi.arm hok hg hl hin
  | some f=>exact Jw hs h hi.srt.uniq hi.arm hi.len hok hg (hi.ok f (lY hg)).len hin
 ·have hr:S.append s l=(S,1):=by unfold DS.append;rw [if_neg hok]
  rw [hr];exact Jz hs h (Bool.eq_false_iff.2 hok)
/-- a disk all of whose blocks are new -/
theorem RetDk.own {B:Nat} {c:Int} {e:Ending} (h:RetDk (fun k=>B<=k) d b S c w e w') (hB:B<=w.heap.size):e=.returned (.int .i64 c)/\(∃ D',DkIn w' (fun k=>B<=k) d S b D')/\Below B w w':=by
 obtain ⟨h1,⟨D',h2⟩,h3⟩:=h;exact ⟨h1,⟨D',h2.mono fun k hk=>by rcases hk with hk | hk;exact hk;exact Nat.le_trans hB hk⟩,h3.below hB fun k hk=>hk⟩
def Sr:ByteArray:=⟨#[108,111,103]⟩
def S1:DS:=((⟨[],0,false⟩:DS).append Sr [97,98,99]).1
def S2:DS:=(S1.sync Sr).1
def S3:DS:=(S2.append Sr [100,101]).1
def S4:DS:=S3.crash [(Sr,1)]
end Go.Proofs.YthphepeniaemoaaGreat
