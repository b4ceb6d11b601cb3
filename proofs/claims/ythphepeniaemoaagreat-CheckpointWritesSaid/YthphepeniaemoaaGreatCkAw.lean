/- The law DeltaCovers, walked. Conditions: none. -/
import Derived.Test.YthphepeniaemoaaGreatIsB
import Derived.Test.YthphepeniaemoaaGreatWinners
import Derived.Test.YthphepeniaemoaaGreatRefWs
import Derived.Test.YthphepeniaemoaaGreatCkM
import Derived.Test.YthphepeniaemoaaGreatCkG
import Derived.Test.YthphepeniaemoaaGreatCkB
import Derived.Test.YthphepeniaemoaaGreatCkV
import Derived.Test.YthphepeniaemoaaGreatDAwake
set_option linter.unusedSimpArgs false
set_option linter.unusedVariables false
set_option linter.unnecessarySimpa false
set_option maxHeartbeats 16000000
set_option maxRecDepth 100000
open Go.Proofs.Tryz
namespace Go.Proofs.YthphepeniaemoaaGreat
open Go.RowKit
theorem IL {b:Bytes} (hb:b.length<=1048576):zl (dJ b)=(b,0):=by
 have h:=IM b [] hb;rw [List.append_nil] at h;unfold zl;rw [h,oH];simp
theorem MadeIn.sg47 {w:World} {m:Nat} {b:MB} {s:MS} {y:RMIt} {ls:List EvIt} {n1:Nat} (h:MadeIn w m b s y (evsOf ls) n1) (hsl:EvsSmall ls):SGood s ls.length:=by
 refine ⟨h.inv,h.rel.nd,by have:=h.ctx;rwa [aW] at this,by have:=h.dead;rwa [aW] at this,fun x hx=>?_⟩;obtain ⟨n9,f9,hM9⟩:=h.merged;rcases hM9.come x hx with ⟨z9,hz9,_⟩ | h9
 ·cases hz9
 ·obtain ⟨v,hv,e8⟩:=List.mem_map.1 h9
  rw [<- e8];exact hsl v hv
theorem wM {s:MS} {y:RMIt} (hr:Rel s y.rm):gK y.ctx (evsOf y.K) y.dead=fM s:=by
 rw [show evsOf y.K=bU s from hr.kept,show y.ctx=s.ctx from hr.ctx,show y.dead=sortD s.dead from hr.dead];unfold gK fM;rw [gI hr.nd];simp only [List.append_assoc]
theorem pg {s:MS} (hg:SGood s 20) (hk:s.K.length<=20):(fM s).length<=400000:=by
 have hcx:=hg.ctx;have hdd:=hg.dead;have hdl:(sortD s.dead).length<=s.dead.length:=gX _;have h1:=aQ s.ctx.length (by omega);have h2:=fJ s.ctx;have h3:=aQ s.K.length (by omega);have h5:=uA (bU s) fun e he=>by
  obtain ⟨z,hz,e9⟩:=(gG hg.nd).1 he;rw [<- e9];exact (hg.inv.kept z hz).1
 rw [gI hg.nd] at h5;have h6:=aQ (sortD s.dead).length (by omega);have h7:=fJ (sortD s.dead);unfold fM ik;simp only [av];omega
theorem uD {d i:Nat} {st:Stamp} {full:Bytes} (hd:d<=63) (hi:i<=1048576) (hf:full.length<=400000):(ckB d i st full).length<=500000:=by
 have h1:=aQ d (by omega);have h2:=aQ i (by omega);have h3:=qI st;have h4:=pY full (by omega);unfold ckB;simp only [av];omega
theorem PK {d i:Int} {st:Stamp} (h:sF d i st=true):∃ d' i':Nat,d=(d':Int)/\i=(i':Int)/\d'<=63/\i'<=1048576/\dI st=true:=by
 unfold sF at h;simp only [Bool.and_eq_true,decide_eq_true_eq] at h;exact ⟨d.toNat,i.toNat,by omega,by omega,by omega,by omega,h.2.2.2.2⟩
/-- what a snapshot of a good map is packed to is parsed as that again -/
theorem Lm {d i:Nat} {st:Stamp} {s:MS} (hd:d<=63) (hi:i<=1048576) (hs:dI st=true) (hg:SGood s 20) (hk:s.K.length<=20) (a:Option Addr) (cap:Nat) (w:World) (hcap:(dJ (ckB d i st (fM s))).length<=cap) (h:BytesIn w a (dJ (ckB d i st (fM s)))) :
 Calls prog 49 #[.slice a (dJ (ckB d i st (fM s))).length cap] w fun x w'=>(∃ m b t,x=.returned (.tuple #[.agg (snA d i st (.pointer (some ⟨m,0,none⟩))),.int .i64 0])/\MpIn w' m b t/\MInv t/\Rel t ⟨s.ctx,bU s,sortD s.dead⟩/\t.dead.length<=s.dead.length/\(∀ x∈t.K,EvSmall x.1)/\(∀ q,foot b t.A q->w.heap.size<=q)/\∀ x∈t.K,Jt w.heap.size x)/\Below w.heap.size w w':=by
 have hcx:=hg.ctx;have hdd:=hg.dead;have hdl:(sortD s.dead).length<=s.dead.length:=gX _;have hK:∀ e∈bU s,dm e=true:=fun e he=>by
  obtain ⟨z,hz,e9⟩:=(gG hg.nd).1 he;rw [<- e9];exact (hg.inv.kept z hz).1
 have hlen:(bU s).length=s.K.length:=gI hg.nd;have hp:=Gl (c:=s.ctx) (K:=bU s) (d:=sortD s.dead) (hg.inv.marks (by omega)) (by omega) hK (by omega) (fun x hx=>hg.inv.dead x (fV.1 hx));have hp2:rD (fM s)=(⟨[],0⟩,s.ctx,bU s,sortD s.dead):=by
  rw [hlen] at hp;exact hp
 have hld:kP s.ctx (bU s) (sortD s.dead)=0:=(hg.mono (by decide:20<=60)).loads (by decide) rfl (by unfold evsOf;rw [List.map_map];exact List.map_id _) rfl;have hfl:=pg hg hk;have hbl:=uD (st:=st) hd hi hfl;have hfr:(dJ (ckB d i st (fM s))).length<=1073741824:=by
  rw [oH];exact Nat.le_trans (wH (by omega)) (by decide)
 refine (Je a cap _ w hfr hcap h (IL (by omega)) (Lj hd hi hs (by omega)) hp2).mono fun x w' hr=>?_;obtain ⟨_,h2,h3⟩:=hr;obtain ⟨m,b,t,g1,g2,g3,g4,g5,g6,g7,g8⟩:=h2 (by unfold ckE;rw [hld];rfl);exact ⟨⟨m,b,t,g1,g2,g3,g4,Nat.le_trans g5 hdl,fun x hx=>vM (hK _ (g6 x hx)),g7,g8⟩,h3⟩
/-- the disk with one snapshot on it -/
def ckD (l:Bytes) (arm:Nat):DS:=⟨[⟨kF,l,l.length⟩],arm,false⟩
theorem UC (l:Bytes) (h:l.length<=16777216):layS ⟨[],0,false⟩ l=(ckD l 0,0):=by
 have h1:rmS ⟨[],0,false⟩=(⟨[],0,false⟩,0):=by rfl
 have h2:(⟨[],0,false⟩:DS).append dH l=(⟨[⟨dH,l,0⟩],0,false⟩,0):=by
  unfold DS.append;rw [if_pos (show bK dH=true from by decide)];simp only [bY,List.find?_nil,List.length_nil];rw [if_neg (by omega),if_neg (show ¬ 16777216<l.length by omega)];rfl
 unfold layS;rw [h1,show thenS (fun S=>S.append dH l) (⟨[],0,false⟩,0)=_ from h2];rfl
/-- the file that lies there holds these bytes, all safe -/
def Ry (S:DS) (b:Bytes):Prop:=S.down=false/\∃ f,bY S.f kF=some f/\f.b=b
theorem Qj (S:DS) (b:Bytes) (ks:Ks) (r:List DF) (h:S.f=⟨kF,b,b.length⟩ :: r):Ry (S.crash ks) b:=by
 refine ⟨rfl,jf ks ⟨kF,b,b.length⟩,?_,?_⟩
 ·unfold DS.crash bY
  simp only [h,List.map_cons];rw [List.find?_cons_of_pos];simp [jf]
 ·unfold jf
  simp only;rw [List.take_of_length_le (by omega)]
theorem Ll {F:Nat->Prop} {d b:Nat} {D:DataW Unit} {S:DS} {dd ii:Nat} {st:Stamp} {s:MS} (hd:dd<=63) (hi:ii<=1048576) (hs:dI st=true) (hg:SGood s 20) (hk:s.K.length<=20) (w:World) (hD:DkIn w F d S b D) (hK:Ry S (dJ (ckB dd ii st (fM s)))) :
 Calls prog 17 #[.pointer (some ⟨d,0,none⟩)] w fun x w'=>(∃ m b t,x=.returned (.tuple #[.agg (snA dd ii st (.pointer (some ⟨m,0,none⟩))),.int .i64 0])/\MpIn w' m b t/\MInv t/\Rel t ⟨s.ctx,bU s,sortD s.dead⟩/\t.dead.length<=s.dead.length/\(∀ x∈t.K,EvSmall x.1))/\Below w.heap.size w w':=by
 have HP:=aq (fun (X:World) (a:Option Addr) (c:Nat) (hc:(dJ (ckB dd ii st (fM s))).length<=c) (h:BytesIn X a (dJ (ckB dd ii st (fM s))))=>Lm hd hi hs hg hk a c X hc h);have hfl:=pg hg hk;have hbl:=uD (st:=st) hd hi hfl;have hfr:(dJ (ckB dd ii st (fM s))).length<=1048590:=by
  rw [oH];exact wH (by omega)
 obtain ⟨hdn,f,hgf,hfb⟩:=hK;have UZ:=fun (X:World) (D:DataW Unit) (h9:DkIn X F d S b D)=>Js (f:=f) (s:=kF) (by decide) h9 (by decide) hgf hdn (by rw [hfb];omega);rw [hfb] at UZ;have HR:=aq UZ;clear UZ hfl hbl hfr hgf hfb hdn;generalize dJ (ckB dd ii st (fM s))=l at *;go_enter func17,ntmps17;go_upto_region 1 with fail
 refine aI (fun W hW=>?_);have hbt:Below w.heap.size w W:=by rw [hW.out];exact (bh _ _).alloc (ar _) _
 have hZ:SnBlk W w.heap.size 0 0 st0 (.pointer none):=by rw [hW.out];exact heap_alloc_last w _
 have hDW:=hD.below hbt;clear hW hD;go_upto_region 4 with (go_at_call 45;(with_reducible refine (HR.out _ _ hDW).mono ?_);rintro x w1 ⟨v,rfl,hown,hb1⟩)
 obtain ⟨ab,cb,rfl,Ov⟩:=bP hown;have hcb:=Hy hown;replace hZ:=hZ.below hb1;replace hbt:=below2 hbt hb1;have hZl:=hZ.lt;clear hown hb1 hDW HR;go_wp2_with (first
  | (go_at_call 49;(with_reducible refine (HP.out _ _ _ hcb Ov).mono ?_);rintro x w2 ⟨⟨m,bm,t,rfl,hm,g3,g4,g5,g6,hfo,hlo⟩,hb2⟩;have hZ2:=hZ.below hb2)
  | (refine wpList_store_row rfl 42 _ _ rfl w.heap.size (snA dd ii st (.pointer (some ⟨m,0,none⟩))) rfl rfl 42 (snA 0 0 st0 (.pointer none)) hZ2 (by kernel_rfl) rfl (by kernel_rfl) ?_))
 refine iZ 2 3 42 42 w.heap.size (snA dd ii st (.pointer (some ⟨m,0,none⟩))) _ (.int .i64 0) rfl rfl rfl (setRow_heap _ _ _ _ _ _ hZ2) underlying42 rfl (by kernel_rfl) rfl ?_;exact ⟨⟨m,bm,t,rfl,hm.cellAt hZ2 hZl (fun q hq=>bi _ _ _ _ (fun e=>hq e.symm)) hfo hlo,g3,g4,g5,g6⟩,below_setRow (below2 hbt hb2) (ar _) _⟩
theorem Jk (w:World):Calls prog 5 #[] w fun e w'=>e=.returned (.bool true)/\Below w.heap.size w w':=by
 have HN:=aq (MZ w);have HM:=aq (fun X=>Bo X);have hs0:dI ⟨9,0,0⟩=true:=by decide
 have hf0:(fM MS.empty).length<=400000:=pg (SGood.empty.mono (by decide)) (by decide);have hbl:=uD (d:=3) (i:=2) (st:=⟨9,0,0⟩) (by decide) (by decide) hf0;have hfr:(dJ (ckB 3 2 ⟨9,0,0⟩ (fM MS.empty))).length<=1048590:=by
  rw [oH];exact wH (by omega)
 have HBy:=fun (X:World) (m:Nat) (b:MB) (h:MpIn X m b MS.empty)=>zA 3 2 ⟨9,0,0⟩ X h MInv.empty List.nodup_nil (by decide) (by decide) (by omega) (by decide) (by decide) hs0 (by omega);have HRd:=fun (X:World) (F:Nat->Prop) (d b:Nat) (D:DataW Unit) (S:DS) (hD:DkIn X F d S b D) (hK:Ry S (dJ (ckB 3 2 ⟨9,0,0⟩ (fM MS.empty))))=>Ll (dd:=3) (ii:=2) (s:=MS.empty) (by decide) (by decide) hs0 (SGood.empty.mono (by decide)) (by decide) X hD hK;generalize dJ (ckB 3 2 ⟨9,0,0⟩ (fM MS.empty))=fb at *;have hkn:=UC fb (by omega);have hic:DInv (ckD fb 0):=by have:=DInv.new.layS fb;rwa [hkn] at this
 have HCr:Hid (∀ (X:World) (F:Nat->Prop) (d b:Nat) (D:DataW Unit),DkIn X F d (ckD fb 0) b D->Calls prog 16 #[.pointer (some ⟨d,0,none⟩),.slice none 0 0] X fun e w'=>e=.returned (.tuple #[])/\DkIn w' F d ((ckD fb 0).crash []) b D/\Fr F X w'):=aq fun X F d b D h=>Pn (ak:=none) (ck:=0) [] h hic (by simp) (fun p hp=>(nomatch hp)) (bb rfl);have HW:=aq (fun (X:World) (m:Nat) (mb:MB) (F:Nat->Prop) (d b:Nat) (D:DataW Unit) (hm:MpIn X m mb MS.empty) (hD:DkIn X F d ⟨[],0,false⟩ b D) (hF:∀ k,F k->w.heap.size<=k/\k<X.heap.size) (hB:w.heap.size<=X.heap.size)=>zy (B:=w.heap.size) (dv:=3) (ic:=2) (st:=⟨9,0,0⟩) (pv:=.pointer (some ⟨m,0,none⟩)) X hD DInv.new hF hB (by omega) (fun Y hY=>HBy Y m mb (hm.kept_w hY)));simp only [hkn] at HW;have HK:=aq (Qj (ckD fb 0) fb [] [] rfl);replace HRd:=aq HRd;clear hkn hic HBy hs0 hf0 hbl hfr;go_enter func5,ntmps5;go_upto_region 2 with (go_at_call 6;(with_reducible refine HN.out.mono ?_);rintro e w1 ⟨rfl,hD1,hb1⟩)
 have hT:=hD1.tight;have hz1:=hb1.size;clear hD1 HN;go_upto_region 3 with (first
  | (refine Great.wpList_buildTo rfl 32 _ rfl _ rfl #[.int .i64 9,.int .i64 0,.int .i64 0] (by kernel_rfl) ?_)
  | (go_at_call 19;(with_reducible refine (HM.out _).mono ?_);rintro e w2 ⟨m,mb,rfl,hm,hb2,-,-⟩;have HW2:=aq (HW.out w2 m mb _ _ _ _ hm (hT.below hb2) (fun k hk=>⟨hk.1,Nat.lt_of_lt_of_le hk.2 hb2.size⟩) (Nat.le_trans hz1 hb2.size)))
  | (refine Great.wpList_buildTo rfl 42 _ rfl _ rfl (snA 3 2 ⟨9,0,0⟩ (.pointer (some ⟨m,0,none⟩))) (by kernel_rfl) ?_)
  | (go_at_call 11;(refine HW2.out.mono ?_);rintro e w3 ⟨rfl,⟨D3,hD3⟩,hf3⟩))
 have OB:Below w.heap.size w w3:=(hb1.trans (hb2.mono hz1)).trans (hf3.below (Nat.le_trans hz1 hb2.size) fun k hk=>hk.1);have hz3:=OB.size;have hlow:∀ k,(w.heap.size<=k/\k<w1.heap.size)\/w2.heap.size<=k->w.heap.size<=k:=fun k hk=>by have:=hb2.size;omega
 clear HW HW2 hm hT HM hb1 hf3;go_upto_region 4 with (go_at_call 16;(with_reducible refine (HCr.out _ _ _ _ _ hD3).mono ?_);rintro e w4 ⟨rfl,hD4,hf4⟩)
 have hb4:Below w.heap.size w w4:=OB.trans (hf4.below hz3 hlow);have hz4:=hb4.size;have WO:=aq (HRd.out w4 _ _ _ _ _ hD4 HK.out);clear hD3 hD4 hf4 OB HCr hlow HK HRd hb2;go_upto_region 5 with (first
  | (go_at_call 17;(with_reducible refine WO.out.mono ?_);rintro e w5 ⟨⟨m5,bm,t,rfl,hm5,hti,htr,-,-⟩,hb5⟩)
  | (refine cZ 42 _ _ _ (snA 3 2 ⟨9,0,0⟩ (.pointer (some ⟨m5,0,none⟩))) rfl rfl (by kernel_rfl) rfl (by kernel_rfl) ?_))
 have hK:t.K.length=0:=by
  have h:=congrArg List.length (show bU MS.empty=bU t from htr.kept);rw [gI htr.nd] at h;exact h.symm
 refine aI (fun W hW=>?_);have hbW:Below w5.heap.size w5 W:=by rw [hW.out];exact (bh _ _).alloc (ar _) _
 have hR:W.rangeAt w5.heap.size 0 (lU 3 2 ⟨9,0,0⟩ (.pointer (some ⟨m5,0,none⟩))):=by rw [hW.out];exact uK _ _ _ _ _ _
 have hL:=Qc W (hm5.kept_w hbW);rw [hK] at hL;have HL:Hid (Calls prog 20 #[.pointer (some ⟨m5,0,none⟩)] W fun e w'=>e=.returned (.int .i64 0)/\W=w'):=aq hL;have hb6:=hb4.trans ((below2 hb5 hbW).mono hz4);have r0:W.cell? ⟨w5.heap.size,0,none⟩=some (.int .i64 3):=hR 0 _ rfl;have r1:W.cell? ⟨w5.heap.size,1,none⟩=some (.int .i64 2):=hR 1 _ rfl;have r2:W.cell? ⟨w5.heap.size,2,none⟩=some (.int .i64 9):=hR 2 _ rfl;have r5:W.cell? ⟨w5.heap.size,5,none⟩=some (.pointer (some ⟨m5,0,none⟩)):=hR 5 _ rfl;clear hW hR hL hK hm5 hbW hb5 hb4 WO hti htr;go_wp2_with (go_at_call 20;(with_reducible refine HL.out.mono ?_);rintro e w7 ⟨rfl,rfl⟩)
 go_ret;exact ⟨rfl,hb6⟩
end Go.Proofs.YthphepeniaemoaaGreat
