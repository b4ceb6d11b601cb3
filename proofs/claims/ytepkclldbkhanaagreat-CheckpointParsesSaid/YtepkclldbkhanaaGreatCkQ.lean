/- The disk: Crash. Conditions: as in the text. -/
import Derived.Test.YtepkclldbkhanaaGreatDCrash
import Derived.Test.YtepkclldbkhanaaGreatLast
import Derived.IntWalk
import Derived.Test.YtepkclldbkhanaaGreatDRefF
import Derived.Test.YtepkclldbkhanaaGreatDiskN
import Derived.Lib.SlBytesConst
import Derived.Test.YtepkclldbkhanaaGreatCkA
import Derived.Test.YtepkclldbkhanaaGreatCanL
set_option linter.unusedSimpArgs false
set_option linter.unusedVariables false
set_option linter.unnecessarySimpa false
set_option maxHeartbeats 16000000
set_option maxRecDepth 100000
open Go.Proofs.Tryz
namespace Go.Proofs.YtepkclldbkhanaaGreat
open Go.RowKit
variable {F:Nat→Prop} {d:Nat} {S:DS} {b:Nat} {D:DataW Unit} {w w':World}
theorem FileAt.cells {w:World} {fb:Nat} {f:DF} (h:FileAt w fb f):∃ a cap,w.cell? ⟨fb,0,none⟩=some (.slice a f.b.length cap)∧w.cell? ⟨fb,1,none⟩=some (.int .i64 f.safe)∧w.frozen? ⟨fb,0,none⟩=false∧w.frozen? ⟨fb,1,none⟩=false:=by
 obtain ⟨a,cap,h1,h2,h3⟩:=h;obtain ⟨p0,p1,f0,f1⟩:=dW h1;exact ⟨a,cap,p0,p1,f0,f1⟩
theorem z23 {p : Prop} (h : p := by (rintro w ⟨s0, s1, s2⟩; go_simp; try with_reducible rfl)) : p := h
theorem O3 {ak:Option Addr} {ck:Nat} (ks:Ks) (h:DkIn w F d S b D) (hi:DInv S) (hkl:ks.length≤1048576) (hks:∀ p∈ks,p.1.size≤maxLen∧(Lit.int .i64 p.2).wf=true) (hk:CellsIn w ak (kcs ks)) :
 Calls prog 13 #[.pointer (some ⟨d,0,none⟩),.slice ak ks.length ck] w fun e w'=>e=.returned (.tuple #[])∧DkIn w' F d (S.crash ks) b D∧Fr F w w':=by
 have hmm:=@run_makeMap prog;have hT:=h.tight;have HF:Hid (∀ k,(F k∧k<w.heap.size)→F k):=Lib.hid fun k hk=>hk.1;obtain ⟨F0,hF0⟩:∃ F0,F0=fun k=>F k∧k<w.heap.size:=⟨_,rfl⟩;have HT:=Lib.hid hT;have H0:=Lib.hid hF0;obtain ⟨d0,d1,d2,e0,e1,e2⟩:=dX h.cells;have HC:=Lib.hid h.cells;clear h hT hF0;go_enter func13,ntmps13;go_upto_region 2 with fail
 refine au (fun W hW=>?_);have hcW:DkCells W d b 0 false:=by rw [hW.out];exact ql (qm HC.out _) _
 have hfW:Fr (isR d) w W:=by rw [hW.out];exact (gB _).again (gB _)
 have hkW:=hk.frS hfW (fun k e=>by subst e;exact HC.out.noStr) (PU ks);have hDW:DkIn W F0 d ⟨S.f,0,false⟩ b D:=by rw [H0.out];exact HT.out.setCells hcW hfW
 have hFW:Fr F w W:=hfW.mono fun k _ e=>by subst e;exact HT.out.fd.1
 clear hW hcW d0 d1 d2 e0 e1 e2 hk;have hmap:=World.ownsMap_made W prog 9 (plainElem (H:=Unit) prog 3);go_wp2;go_loopw [21] (fun i wr=>∃ (k:Nat) (E:DataW Unit),i=.int .i64 k∧k≤ks.length∧KeepMap wr W.heap.size k E∧KeepIs E (ks.take k)∧Below W.heap.size W wr) (fun i _=>ks.length - (intOf i).toNat)
 case atStart=>exact ⟨0,_,rfl,Nat.zero_le _,hmap,fun s=>rfl,(Below.refl _ _).alloc (Nat.le_refl _) _⟩
 case round =>
  obtain ⟨k,E,rfl,hk1,hown,hE,hbw⟩:=hrel;by_cases hlt:k<ks.length
  ·obtain ⟨A,off,rfl,c0,c1⟩:=TQ (hkW.kept hbw) hlt
   have HP:=Lib.hid (hE.put hown.isMap hlt);obtain ⟨hps,hpw⟩:=hks _ (List.getElem_mem hlt);have hzw:=hbw.size;clear hE;generalize ks[k]=p at c0 c1 HP hps hpw;obtain ⟨pn,pk⟩:=p;simp only at c0 c1 HP hps hpw;have hval:=PW hpw;have hna:∀ o:Obj,(wr.alloc o).heap[W.heap.size]?=wr.heap[W.heap.size]?:=fun o=>((Below.refl wr.heap.size wr).alloc (Nat.le_refl _) o).block _ hown.lt;go_wp2_with (at_mapUpdate;go_loud (refine wpList_mapUpdate_own _ rfl _ _ _ 101 rfl 9 3 vF underlying101 (plainElem (H:=Unit) prog 3) W.heap.size k E rfl (hown.keep (hna _)) (by unfold maxLen;omega) _ _ (nk pn) rfl rfl (nN hps) (.lit (.int .i64 pk)) [] hval ?_);intro w3 hown3 hgrow3)
   go_roundw
   case rel=>exact ⟨k+1,_,by go_num,by omega,hown3,HP.out,(hbw.alloc hzw _).grown hgrow3 (by simp;omega) (fun k e=>by simp only [Option.some.injEq] at e;omega)⟩
   case measure => exact z65
  ·have hke:k=ks.length:=by omega
   subst hke;rw [List.take_length] at hE;have hDr:=hDW.below hbw;have HE:=Lib.hid hE;have hz0:=hown.lt;have HN:=Lib.hid (OY hDr hi.srt hi.len);have VW:∀ k,F0 k→k<W.heap.size:=fun k hk=>Nat.lt_of_lt_of_le (by rw [H0.out] at hk;exact hk.2) hFW.size;clear hkW hE;obtain ⟨wq,hwq⟩:∃ wq,wq=wr:=⟨_,rfl⟩;subst hwq;go_wp2_with (go_at_call 45;(with_reducible refine HN.out.mono ?_);rintro e w4 ⟨an,cn,rfl,hnm,hb4⟩)
   have hm4:=hown.keep (hb4.block _ hz0);have hD4:=hDr.below hb4;rw [← FO S ks] at hD4;have Xh:=hbw.trans (hb4.mono hbw.size);have h8:=hi.len;go_loopw [34] (fun i wr=>∃ k:Nat,i=.int .i64 k∧k≤S.f.length∧KeepMap wr W.heap.size ks.length E∧DkIn wr F0 d (jb S ks k) b D∧CellsIn wr an (lM S.f)∧Fr F0 w4 wr) (fun i _=>S.f.length - (intOf i).toNat)
   case atStart=>exact ⟨0,rfl,Nat.zero_le _,hm4,hD4,hnm,Fr.refl _ _⟩
   case round =>
        obtain ⟨k,rfl,hk1,hmk,hDk,hnk,hfk⟩:=hrel;by_cases hlt:k<S.f.length
        ·obtain ⟨A,off,rfl,c0⟩:=cells_at hnk (k:=k) (by simpa [lM] using hlt)
         simp only [lM,List.getElem_map] at c0;obtain ⟨fb,hF,hat,hfa⟩:=hDk.files.some _ _ (BV hi.srt hlt);have hok:=hi.ok _ (List.getElem_mem hlt);have HLT:=Lib.hid hlt;have HST:=Lib.hid (FP (ks:=ks) hi.srt hlt);have HG:=Lib.hid (BV (ks:=ks) hi.srt hlt);have hns:S.f[k].name.size≤maxLen:=by have:=GY hok.name;unfold maxLen;omega
         have hkv:=HE.out S.f[k].name;obtain ⟨hsf,hln⟩:S.f[k].safe≤S.f[k].b.length∧S.f[k].b.length≤16777216:=⟨hok.safe,hok.len⟩;clear hok;generalize S.f[k]=f at c0 hat hfa HST HG hns hkv hsf hln;obtain ⟨v1,ps1,hrun1,hv1⟩:=hDk.own.lookup vF underlying86 (zA _) (zd:=.nil) (zp:=[]) rfl (nN hns);rw [hat] at hv1;obtain rfl:=Ef hv1;obtain ⟨c,hrun2,hc2,hwc⟩:=hmk.lookup_int vF underlying101 underlying3 (by kernel_rfl) (nN hns);rw [hkv] at hc2;obtain rfl:kE ks f.name=c:=by simpa using hc2
         obtain ⟨d0,d1,d2,e0,e1,e2⟩:=dX hDk.cells;obtain ⟨af,cf,x0,x1,y0,y1⟩:=hfa.cells;clear hc2 hkv hv1;go_upto_region 12 with fail
         obtain ⟨r,hr⟩:∃ r,f.safe+r=f.b.length:=⟨f.b.length - f.safe,by omega⟩;obtain ⟨m,hm⟩:∃ m,m=uP (kE ks f.name) r:=⟨_,rfl⟩;have hmr:m≤r:=by rw [hm];exact xP _ _
         have hrr:f.b.length - f.safe=r:=by omega
         have hsub:(f.b.length:Int) - (f.safe:Int)=(r:Int):=by omega
         obtain ⟨tb,htb⟩:∃ tb,tb=f.b.take (f.safe+m):=⟨_,rfl⟩;have htl:tb.length=f.safe+m:=by rw [htb];simp;omega
         have HCR:Hid (jR ks f=⟨f.name,tb,tb.length⟩):=Lib.hid (by unfold jR;rw [hrr,← hm,htl,htb]);have Vt:min (max (kE ks f.name) 0) (r:Int)=(m:Int):=by rw [hm];unfold uP;split <;> omega
         have hw1:IntKind.i64.wrap (r:Int)=r:=IntWalk.i64_in _ (by omega);have hw2:IntKind.i64.wrap ((f.safe:Int)+min (max (kE ks f.name) 0) (IntKind.i64.wrap (r:Int)))=((f.safe+m:Nat):Int):=by rw [hw1,Vt,Int.natCast_add];exact IntWalk.i64_in _ (by omega)
         have Xr:Hid (∀ X,FileAt X fb f→Calls prog 46 #[.pointer (some ⟨fb,0,none⟩),.int .i64 (IntKind.i64.wrap ((f.safe:Int)+min (max (kE ks f.name) 0) (IntKind.i64.wrap (r:Int))))] X fun e w'=>e=.returned (.tuple #[])∧FileAt w' fb { f with b:=tb }∧Fr (isR fb) X w'):=Lib.hid fun X hX=>by
          have:=Si (n:=f.safe+m) (by omega) (by omega) hX;rw [← htb] at this;rw [hw2];exact this
         clear Vt hw1 hw2 hm;replace hfa:FileAt wr.drew fb f:=hfa;have HFA:=Lib.hid hfa;replace hmk:KeepMap wr.drew W.heap.size ks.length E:=hmk;replace hDk:DkIn wr.drew F0 d (jb S ks k) b D:=hDk.below (Below.refl _ _).drew;replace hnk:CellsIn wr.drew (some ⟨A,off,none⟩) (lM S.f):=hnk;replace hfk:Fr F0 w4 wr.drew:=hfk.again (Fr.of_below (Below.refl _ _).drew);obtain ⟨c,hrun2,hc2,hwc⟩:=hmk.lookup_int vF underlying101 underlying3 (by kernel_rfl) (nN hns);rw [HE.out] at hc2;obtain rfl:kE ks f.name=c:=by simpa using hc2
         clear x0 x1 y0 y1 htb htl hrr hc2;obtain ⟨af,cf,x0,x1,y0,y1⟩:=hfa.cells;generalize kE ks f.name=N at *;refine wp_region_noPanic ?_;refine dD (fun W'=>W'.cell? ⟨fb,0,none⟩=some (.slice af f.b.length cf)∧W'.cell? ⟨fb,1,none⟩=some (.int .i64 f.safe)∧(Instr.lookup 101 (.map (some W.heap.size)) (.string f.name) false).run prog W'=.ok (.int .i64 N) W') [24] (by kernel_rfl) ?_;have hS:=And.intro x0 (And.intro x1 hrun2);refine ai (i:=0) (oi:=⟨some 44,_,_,_,_,_⟩) (v:=?_) rfl (by kernel_rfl) (by kernel_rfl) (by kernel_rfl) (by kernel_rfl) (by kernel_rfl) (fun _ _ _ h=>h) (Or.inl ⟨by rfl,?_⟩) (by assumption) ?_
         case refine_2 => exact z23
         try simp only [pS]
         refine ai (i:=1) (oi:=⟨some 45,_,_,_,_,_⟩) (v:=?_) rfl (by kernel_rfl) (by kernel_rfl) (by kernel_rfl) (by kernel_rfl) (by kernel_rfl) (fun _ _ _ h=>h) (Or.inl ⟨by rfl,?_⟩) (by assumption) ?_
         case refine_2 => exact z23
         try simp only [pS]
         refine ai (i:=2) (oi:=⟨some 46,_,_,_,_,_⟩) (v:=?_) rfl (by kernel_rfl) (by kernel_rfl) (by kernel_rfl) (by kernel_rfl) (by kernel_rfl) (fun _ _ _ h=>h) (Or.inl ⟨by rfl,?_⟩) (by assumption) ?_
         case refine_2 => exact z23
         try simp only [pS]
         refine ai (i:=3) (oi:=⟨some 47,_,_,_,_,_⟩) (v:=?_) rfl (by kernel_rfl) (by kernel_rfl) (by kernel_rfl) (by kernel_rfl) (by kernel_rfl) (fun _ _ _ h=>h) (Or.inl ⟨by rfl,?_⟩) (by assumption) ?_
         case refine_2 => exact z23
         try simp only [pS]
         refine ai (i:=4) (oi:=⟨some 48,_,_,_,_,_⟩) (v:=?_) rfl (by kernel_rfl) (by kernel_rfl) (by kernel_rfl) (by kernel_rfl) (by kernel_rfl) (fun _ _ _ h=>h) (Or.inl ⟨by rfl,?_⟩) (by assumption) ?_
         case refine_2 => exact z23
         try simp only [pS]
         refine ai (i:=5) (oi:=⟨some 49,_,_,_,_,_⟩) (v:=?_) rfl (by kernel_rfl) (by kernel_rfl) (by kernel_rfl) (by kernel_rfl) (by kernel_rfl) (fun _ _ _ h=>h) (Or.inl ⟨by rfl,?_⟩) (by assumption) ?_
         case refine_2 => exact z23
         try simp only [pS]
         refine ai (i:=6) (oi:=⟨some 50,_,_,_,_,_⟩) (v:=?_) rfl (by kernel_rfl) (by kernel_rfl) (by kernel_rfl) (by kernel_rfl) (by kernel_rfl) (fun _ _ _ h=>h) (Or.inl ⟨by rfl,?_⟩) (by assumption) ?_
         case refine_2 => exact z23
         try simp only [pS]
         refine ai (i:=7) (oi:=⟨some 51,_,_,_,_,_⟩) (v:=?_) rfl (by kernel_rfl) (by kernel_rfl) (by kernel_rfl) (by kernel_rfl) (by kernel_rfl) (fun _ _ _ h=>h) (Or.inl ⟨by rfl,?_⟩) (by assumption) ?_
         case refine_2 => exact z23
         try simp only [pS]
         refine ai (i:=8) (oi:=⟨some 52,_,_,_,_,_⟩) (v:=?_) rfl (by kernel_rfl) (by kernel_rfl) (by kernel_rfl) (by kernel_rfl) (by kernel_rfl) (fun _ _ _ h=>h) (Or.inl ⟨by rfl,?_⟩) (by assumption) ?_
         case refine_2 => exact z23
         try simp only [pS]
         refine ai (i:=9) (oi:=⟨some 53,_,_,_,_,_⟩) (v:=?_) rfl (by kernel_rfl) (by kernel_rfl) (by kernel_rfl) (by kernel_rfl) (by kernel_rfl) (fun _ _ _ h=>h) (Or.inl ⟨by rfl,?_⟩) (by assumption) ?_
         case refine_2 => exact z23
         try simp only [pS]
         refine ai (i:=10) (oi:=⟨some 54,_,_,_,_,_⟩) (v:=?_) rfl (by kernel_rfl) (by kernel_rfl) (by kernel_rfl) (by kernel_rfl) (by kernel_rfl) (fun _ _ _ h=>h) (Or.inl ⟨by rfl,?_⟩) (by assumption) ?_
         case refine_2 => exact z23
         try simp only [pS]
         refine ai (i:=11) (oi:=⟨some 55,_,_,_,_,_⟩) (v:=?_) rfl (by kernel_rfl) (by kernel_rfl) (by kernel_rfl) (by kernel_rfl) (by kernel_rfl) (fun _ _ _ h=>h) (Or.inl ⟨by rfl,?_⟩) (by assumption) ?_
         case refine_2 => exact z23
         try simp only [pS]
         refine ai (i:=12) (oi:=⟨some 56,_,_,_,_,_⟩) (v:=?_) rfl (by kernel_rfl) (by kernel_rfl) (by kernel_rfl) (by kernel_rfl) (by kernel_rfl) (fun _ _ _ h=>h) (Or.inl ⟨by rfl,?_⟩) (by assumption) ?_
         case refine_2 => exact z23
         try simp only [pS]
         refine ai (i:=13) (oi:=⟨some 57,_,_,_,_,_⟩) (v:=?_) rfl (by kernel_rfl) (by kernel_rfl) (by kernel_rfl) (by kernel_rfl) (by kernel_rfl) (fun _ _ _ h=>h) (Or.inl ⟨by rfl,?_⟩) (by assumption) ?_
         case refine_2 => exact z23
         try simp only [pS]
         refine ai (i:=14) (oi:=⟨some 58,_,_,_,_,_⟩) (v:=?_) rfl (by kernel_rfl) (by kernel_rfl) (by kernel_rfl) (by kernel_rfl) (by kernel_rfl) (fun _ _ _ h=>h) (Or.inl ⟨by rfl,?_⟩) (by assumption) ?_
         case refine_2 => exact z23
         try simp only [pS]
         refine ai (i:=15) (oi:=⟨some 59,_,_,_,_,_⟩) (v:=?_) rfl (by kernel_rfl) (by kernel_rfl) (by kernel_rfl) (by kernel_rfl) (by kernel_rfl) (fun _ _ _ h=>h) (Or.inl ⟨by rfl,?_⟩) (by assumption) ?_
         case refine_2 => exact z23
         try simp only [pS]
         refine ai (i:=16) (oi:=⟨some 60,_,_,_,_,_⟩) (v:=?_) rfl (by kernel_rfl) (by kernel_rfl) (by kernel_rfl) (by kernel_rfl) (by kernel_rfl) (fun _ _ _ h=>h) (Or.inl ⟨by rfl,?_⟩) (by assumption) ?_
         case refine_2 => exact z23
         try simp only [pS]
         refine ai (i:=17) (oi:=⟨some 61,_,_,_,_,_⟩) (v:=?_) rfl (by kernel_rfl) (by kernel_rfl) (by kernel_rfl) (by kernel_rfl) (by kernel_rfl) (fun _ _ _ h=>h) (Or.inl ⟨by rfl,?_⟩) (by assumption) ?_
         case refine_2 => exact z23
         try simp only [pS]
         refine ai (i:=18) (oi:=⟨some 62,_,_,_,_,_⟩) (v:=?_) rfl (by kernel_rfl) (by kernel_rfl) (by kernel_rfl) (by kernel_rfl) (by kernel_rfl) (fun _ _ _ h=>h) (Or.inl ⟨by rfl,?_⟩) (by assumption) ?_
         case refine_2 => exact z23
         try simp only [pS]
         refine ai (i:=19) (oi:=⟨some 63,_,_,_,_,_⟩) (v:=?_) rfl (by kernel_rfl) (by kernel_rfl) (by kernel_rfl) (by kernel_rfl) (by kernel_rfl) (fun _ _ _ h=>h) (Or.inl ⟨by rfl,?_⟩) (by assumption) ?_
         case refine_2 => exact z23
         try simp only [pS]
         refine ai (i:=20) (oi:=⟨some 64,_,_,_,_,_⟩) (v:=?_) rfl (by kernel_rfl) (by kernel_rfl) (by kernel_rfl) (by kernel_rfl) (by kernel_rfl) (fun _ _ _ h=>h) (Or.inl ⟨by rfl,?_⟩) (by assumption) ?_
         case refine_2 => exact z23
         try simp only [pS]
         refine ai (i:=21) (oi:=⟨some 65,_,_,_,_,_⟩) (v:=?_) rfl (by kernel_rfl) (by kernel_rfl) (by kernel_rfl) (by kernel_rfl) (by kernel_rfl) (fun _ _ _ h=>h) (Or.inl ⟨by rfl,?_⟩) (by assumption) ?_
         case refine_2 => exact z23
         try simp only [pS]
         refine ai (i:=22) (oi:=⟨some 66,_,_,_,_,_⟩) (v:=?_) rfl (by kernel_rfl) (by kernel_rfl) (by kernel_rfl) (by kernel_rfl) (by kernel_rfl) (fun _ _ _ h=>h) (Or.inl ⟨by rfl,?_⟩) (by assumption) ?_
         case refine_2 => exact z23
         try simp only [pS]
         refine ai (i:=23) (oi:=⟨some 67,_,_,_,_,_⟩) (v:=?_) rfl (by kernel_rfl) (by kernel_rfl) (by kernel_rfl) (by kernel_rfl) (by kernel_rfl) (fun _ _ _ h=>h) (Or.inl ⟨by rfl,?_⟩) (by assumption) ?_
         case refine_2 => exact z23
         try simp only [pS]
         refine cZ (i:=24) (o:=⟨some 68,_,_,_,_,_⟩) (by kernel_rfl) rfl ?_;intro K hK;go_simp;go_at_call 46;(with_reducible refine (Xr.out _ HFA.out).mono ?_)
         rintro e w5 ⟨rfl,VB,hf5⟩;go_simp;refine hK.out _ _ (Or.inl (by kernel_rfl)) ?_;clear hK K
         refine y65 ?_
         obtain ⟨a5,c5,z0,z1,t0,t1⟩:=VB.cells;have HFL:=Lib.hid (VW fb hF);clear hrun1 hrun2 x0 x1 y0 y1 hS d0 d1 d2 e0 e1 e2 c0;go_wp2;go_roundw
         case rel =>
          have hf6:Fr (isR fb) wr.drew (w5.setCell ⟨fb,1,none⟩ (.int .i64 tb.length)):=hf5.again (gB _);have WZ:FileAt (w5.setCell ⟨fb,1,none⟩ (.int .i64 tb.length)) fb (jR ks f):=by rw [HCR.out];exact VB.setSafe _
          have hD6:=DkIn.setFile (g:=f) (f:=jR ks f) hDk HG.out hat rfl WZ HFA.out hf6;have he:({ jb S ks k with f:=nH (jb S ks k).f (jR ks f) }:DS)=jb S ks (k+1):=by rw [HST.out];rfl
          rw [he] at hD6;have hlt2:=HLT.out;have XN:=HFL.out;exact ⟨k+1,by go_num,by omega,hmk.keep (hf6.block _ hmk.lt (fun e=>by have:=HFL.out;simp only [isR] at e;omega)),hD6,hnk.frS hf6 (fun q hq=>by subst hq;exact HFA.out.noStr) (CY _),hfk.again (hf6.mono fun q _ hq=>by subst hq;exact hF)⟩
         case measure=>have hlt2:=HLT.out;simp [intOf] <;> omega
        ·have hke:k=S.f.length:=by omega
         subst hke;rw [Iz] at hDk;have hFF:Fr F w wr:=(hFW.again (Fr.of_below Xh)).again (hfk.mono fun q _ hq=>by rw [H0.out] at hq;exact hq.1);have hDF:=hDk.mono (G:=F) fun q hq=>by rw [H0.out] at hq;exact hq.1
         go_wp2;all_goals
          go_end0;exact ⟨rfl,hDF,hFF⟩
theorem BytesIn.cells {w:World} {a:Option Addr} {l:Bytes} (h:BytesIn w a l):CellsIn w a (aX l):=by
 rcases h with rfl | ⟨A,off,h1,h2⟩
 ·exact Or.inl rfl
 ·refine Or.inr ⟨A,off,h1,fun j v hv=>?_⟩
  have:=h2.news j v hv;rwa [Addr.add_mid] at this
variable {F:Nat→Prop} {d:Nat} {S:DS} {b:Nat} {D:DataW Unit} {w w':World}
variable {F:Nat→Prop} {d:Nat} {S:DS} {b:Nat} {D:DataW Unit} {s:ByteArray} {w w':World}
theorem Ls {a2:Option Addr} {l:Bytes} {cap2:Nat} (hs:s.size≤maxLen) (h:DkIn w F d S b D) (hi:DInv S) (hl:l.length≤1073741824) (hin:BytesIn w a2 l) :
 Calls prog 39 #[.pointer (some ⟨d,0,none⟩),.string s,.slice a2 l.length cap2] w (RetDk F d b (S.append s l).1 (S.append s l).2 w):=by
 by_cases hok:ed s=true
 ·cases hg:fJ S.f s with
  | none=>exact Je hs h hi.srt.uniq hi.arm hok hg hl hin
  | some f=>exact Jd hs h hi.srt.uniq hi.arm hi.len hok hg (hi.ok f (rJ hg)).len hin
 ·have hr:S.append s l=(S,1):=by unfold DS.append;rw [if_neg hok]
  rw [hr];exact Jf hs h (Bool.eq_false_iff.2 hok)
/-- a disk all of whose blocks are new -/
theorem RetDk.own {B:Nat} {c:Int} {e:Ending} (h:RetDk (fun k=>B≤k) d b S c w e w') (hB:B≤w.heap.size):e=.returned (.int .i64 c)∧(∃ D',DkIn w' (fun k=>B≤k) d S b D')∧Below B w w':=by
 obtain ⟨h1,⟨D',h2⟩,h3⟩:=h;exact ⟨h1,⟨D',h2.mono fun k hk=>by rcases hk with hk | hk;exact hk;exact Nat.le_trans hB hk⟩,h3.below hB fun k hk=>hk⟩
def TL:ByteArray:=⟨#[108,111,103]⟩
def S1:DS:=((⟨[],0,false⟩:DS).append TL [97,98,99]).1
def S2:DS:=(S1.sync TL).1
def S3:DS:=(S2.append TL [100,101]).1
abbrev jP:ByteArray:=⟨#[116,109,112]⟩
abbrev kN:ByteArray:=⟨#[99,107,112,116]⟩
def awB:Bytes:=[3,2,9,0,0,3,0,0,0]
theorem L6:nU MS.empty=[0,0,0]:=by decide +kernel
theorem Mc:ckB 3 2 ⟨9,0,0⟩ (nU MS.empty)=awB:=by rw [L6];decide +kernel
theorem FW:(dw awB).length=14:=by decide +kernel
theorem UB:nV (dw awB)=(awB,0):=by
 have h:=Ib awB [] (by decide);rw [List.append_nil] at h;unfold nV;rw [h];decide +kernel
theorem SA:ou awB=(⟨[],0⟩,3,2,⟨9,0,0⟩,[0,0,0]):=by rfl
theorem SB:jL [0,0,0]=(⟨[],0⟩,[],[],[]):=by rfl
theorem Wn:gu [] [] []=0:=by rfl
theorem Wu (l:Bytes) (h:l.length=14):(⟨[],0,false⟩:DS).append jP l=(⟨[⟨jP,l,0⟩],0,false⟩,0):=by
 have h1:¬ 16777216<l.length:=by omega
 unfold DS.append;rw [if_pos (show ed jP=true from by decide)];simp only [fJ,List.find?_nil,List.length_nil];rw [if_neg (by omega),if_neg h1];rfl
theorem Ws (l:Bytes):(⟨[⟨jP,l,0⟩],0,false⟩:DS).sync jP=(⟨[⟨jP,l,l.length⟩],0,false⟩,0):=by rfl
theorem Wq (l:Bytes) (n:Nat):(⟨[⟨jP,l,n⟩],0,false⟩:DS).rename jP kN=(⟨[⟨kN,l,n⟩],0,false⟩,0):=by rfl
theorem Xo (l:Bytes):(⟨[⟨kN,l,l.length⟩],0,false⟩:DS).crash []=⟨[⟨kN,l,l.length⟩],0,false⟩:=by
 have h:uP (kE [] kN) 0=0:=Nat.le_zero.1 (xP _ 0);simp [DS.crash,jR,h]
theorem Tz (l:Bytes) (h:l.length=14):DInv ⟨[⟨jP,l,0⟩],0,false⟩:=by
 have:=DInv.new.append jP l;rwa [Wu l h] at this
theorem L8 (l:Bytes) (h:l.length=14):DInv ⟨[⟨jP,l,l.length⟩],0,false⟩:=by
 have:=(Tz l h).sync jP;rwa [Ws l] at this
theorem Wp (l:Bytes) (h:l.length=14):DInv ⟨[⟨kN,l,l.length⟩],0,false⟩:=by
 have:=(L8 l h).rename jP kN;rwa [Wq l] at this
end Go.Proofs.YtepkclldbkhanaaGreat
