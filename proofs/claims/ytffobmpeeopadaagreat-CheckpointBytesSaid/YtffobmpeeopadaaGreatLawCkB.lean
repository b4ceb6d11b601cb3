/- canon: full bytes are loaded again; a nil map has none. Conditions: as in the text. -/
import Derived.Test.YtffobmpeeopadaaGreatCanL
import Derived.Test.YtffobmpeeopadaaGreatCanA
import Derived.Test.YtffobmpeeopadaaGreatReadK
import Derived.Test.YtffobmpeeopadaaGreatIsB
import Derived.Test.YtffobmpeeopadaaGreatCkR
import Derived.Test.YtffobmpeeopadaaGreatCkM
import Derived.Test.YtffobmpeeopadaaGreatCkG
import Derived.Test.YtffobmpeeopadaaGreatCkD
import Derived.Test.YtffobmpeeopadaaGreatIs
set_option linter.unusedSimpArgs false
set_option linter.unusedVariables false
set_option linter.unnecessarySimpa false
set_option maxHeartbeats 16000000
set_option maxRecDepth 100000
open Go.Proofs.Tryz
namespace Go.Proofs.YtffobmpeeopadaaGreat
open Go.RowKit
theorem Ec {mk:List Dot} (h:bf mk=0) (s:Bytes):kG ⟨iO mk++s,0⟩=(⟨s,0⟩,mk):=by
 obtain ⟨h1,h2⟩:=nM h;unfold kG iO;rw [List.append_assoc,dZ 4096 mk.length _ (by omega) h1];simp only;rw [qQ mk s h2];unfold kR;simp [h]
theorem EP:∀ (l:List Ev) (s:Bytes),(∀ e∈l,dw e=true)->oW l.length ⟨jd l++s,0⟩=(⟨s,0⟩,l)
 | [],s,_=>by simp [oW,jd]
 | e :: l,s,h=>by
   have h1:jd (e :: l)++s=evB e++(jd l++s):=by simp [jd]
   rw [h1,List.length_cons,oW,if_pos rfl,U4 (h e (by simp))];simp only [EP l s (fun x hx=>h x (by simp [hx]))]
theorem G7 {c:List Dot} {K:List Ev} {d:List Dot} (hc:bf c=0) (hk:K.length<=2048) (hK:∀ e∈K,dw e=true) (hd:d.length<=65536) (hD:∀ x∈d,bi x=true) :
 pK (iO c++aj K.length++jd K++aj d.length++bY d)=(⟨[],0⟩,c,K,d):=by
 have e1:=Ec hc (aj K.length++(jd K++(aj d.length++bY d)));have e2:=dZ 2048 K.length (jd K++(aj d.length++bY d)) (by omega) hk;have e3:=EP K (aj d.length++bY d) hK;have e4:=dZ 65536 d.length (bY d) (by omega) hd;have e5:=qQ d [] hD;rw [List.append_nil] at e5;unfold pK;simp only [List.append_assoc,e1,e2,e3,e4,e5]
section
variable {H:Type} {enc:TypeId×Value->H} {w:World} {spare:Nat->Bool} {held:Bool}
open Go.ChangeShapes Go.WideShapes Go.ChangeAt
theorem Kq {fuel:Nat} {cs:List Value} {x:DataW H×List MemPlace} (hsz:cs.length=6) (hf:DataW.trod enc prog w 0 spare held fuel 26 cs=some x) :
 ∃ (d i:Int) (s:Stamp) (a:Option Addr) (ls:List EvIt) (cap:Nat),cs=lN d i s (.slice a ls.length cap)/\EvsArg w a ls:=by
 match cs,hsz with
 | [c0,c1,c2,c3,c4,c5],_ =>
   obtain ⟨_,_,hD⟩:=bz underlying26 hf 0 _ rfl 1 (by kernel_rfl) [c0] rfl;obtain ⟨_,_,hI⟩:=bz underlying26 hf 1 _ rfl 1 (by kernel_rfl) [c1] rfl;obtain ⟨_,_,hS⟩:=bz underlying26 hf 2 _ rfl 3 (by kernel_rfl) [c2,c3,c4] rfl;obtain ⟨_,_,hL⟩:=bz underlying26 hf 3 _ rfl 1 (by kernel_rfl) [c5] rfl;obtain ⟨_,_,h2⟩:=bz underlying23 hS 0 _ rfl 1 (by kernel_rfl) [c2] rfl;obtain ⟨_,_,h3⟩:=bz underlying23 hS 1 _ rfl 1 (by kernel_rfl) [c3] rfl;obtain ⟨_,_,h4⟩:=bz underlying23 hS 2 _ rfl 1 (by kernel_rfl) [c4] rfl;obtain ⟨x0,e0,_,_⟩:=DataW.trod_int underlying3 hD;obtain ⟨x1,e1,_,_⟩:=DataW.trod_int underlying3 hI;obtain ⟨x2,e2,_,_⟩:=DataW.trod_int underlying3 h2;obtain ⟨x3,e3,_,_⟩:=DataW.trod_int underlying3 h3;obtain ⟨x4,e4,_,_⟩:=DataW.trod_int underlying3 h4;obtain ⟨a,ls,cap,e5,hE⟩:=QS hL;simp only [List.cons.injEq,and_true] at e0 e1 e2 e3 e4 e5;subst e0 e1 e2 e3 e4 e5;exact ⟨x0,x1,⟨x2,x3,x4⟩,a,ls,cap,rfl,hE⟩
theorem P8 {r:Reach} {b0:Nat} {v:Value} {d:DataW H} {p:List MemPlace} (hv:Value.okWide prog w r b0 26 v) (h:DataW.Trod enc prog w 0 spare held 26 v d p) :
 ∃ (d i:Int) (s:Stamp) (a:Option Addr) (ls:List EvIt) (cap:Nat),v=.agg (snA d i s (.slice a ls.length cap))/\EvsArg w a ls:=by
 obtain ⟨⟨cs⟩,rfl,hsz⟩:=okWide_struct underlying26 hv;have hc:prog.cellsOf 26=6:=by kernel_rfl
 rw [hc] at hsz;obtain ⟨fuel,hf⟩:=h;simp only [Value.cells] at hf;obtain ⟨d,i,s,a,ls,cap,rfl,hE⟩:=Kq hsz hf;exact ⟨d,i,s,a,ls,cap,rfl,hE⟩
end
theorem frOne_frame {b:Bytes} (hb:b.length<=1048576):frOne (frameB b)=(b,0):=by
 have h:=zD b [] hb;rw [List.append_nil] at h;unfold frOne;rw [h,vN];simp
theorem MadeIn.sg47 {w:World} {m:Nat} {b:MB} {s:MS} {y:RMIt} {ls:List EvIt} {n1:Nat} (h:MadeIn w m b s y (evsOf ls) n1) (hsl:EvsSmall ls):SGood s ls.length:=by
 refine ⟨h.inv,h.rel.nd,by have:=h.ctx;rwa [aW] at this,by have:=h.dead;rwa [aW] at this,fun x hx=>?_⟩;obtain ⟨n9,f9,hM9⟩:=h.merged;rcases hM9.come x hx with ⟨z9,hz9,_⟩ | h9
 ·cases hz9
 ·obtain ⟨v,hv,e8⟩:=List.mem_map.1 h9
  rw [<- e8];exact hsl v hv
theorem wR {s:MS} {y:RMIt} (hr:Rel s y.rm):iq y.ctx (evsOf y.K) y.dead=iy s:=by
 rw [show evsOf y.K=bK s from hr.kept,show y.ctx=s.ctx from hr.ctx,show y.dead=sortD s.dead from hr.dead];unfold iq iy;rw [fQ hr.nd];simp only [List.append_assoc]
theorem zC {s:MS} (hg:SGood s 20) (hk:s.K.length<=20):(iy s).length<=400000:=by
 have hcx:=hg.ctx;have hdd:=hg.dead;have hdl:(sortD s.dead).length<=s.dead.length:=fO _;have h1:=aV s.ctx.length (by omega);have h2:=fK s.ctx;have h3:=aV s.K.length (by omega);have h5:=uw (bK s) fun e he=>by
  obtain ⟨z,hz,e9⟩:=(dX hg.nd).1 he;rw [<- e9];exact (hg.inv.kept z hz).1
 rw [fQ hg.nd] at h5;have h6:=aV (sortD s.dead).length (by omega);have h7:=fK (sortD s.dead);unfold iy iO;simp only [aq];omega
theorem FM {d i:Nat} {st:Stamp} {full:Bytes} (hd:d<=63) (hi:i<=1048576) (hf:full.length<=400000):(ckB d i st full).length<=500000:=by
 have h1:=aV d (by omega);have h2:=aV i (by omega);have h3:=qK st;have h4:=qh full (by omega);unfold ckB;simp only [aq];omega
theorem Qz {d i:Int} {st:Stamp} (h:uD d i st=true):∃ d' i':Nat,d=(d':Int)/\i=(i':Int)/\d'<=63/\i'<=1048576/\dM st=true:=by
 unfold uD at h;simp only [Bool.and_eq_true,decide_eq_true_eq] at h;exact ⟨d.toNat,i.toNat,by omega,by omega,by omega,by omega,h.2.2.2.2⟩
/-- what a snapshot of a good map is packed to is parsed as that again -/
theorem ML {d i:Nat} {st:Stamp} {s:MS} (hd:d<=63) (hi:i<=1048576) (hs:dM st=true) (hg:SGood s 20) (hk:s.K.length<=20) (a:Option Addr) (cap:Nat) (w:World) (hcap:(frameB (ckB d i st (iy s))).length<=cap) (h:BytesIn w a (frameB (ckB d i st (iy s)))) :
 Calls prog 9 #[.slice a (frameB (ckB d i st (iy s))).length cap] w fun x w'=>(∃ m b t,x=.returned (.tuple #[.agg (snA d i st (.pointer (some ⟨m,0,none⟩))),.int .i64 0])/\MpIn w' m b t/\MInv t/\Rel t ⟨s.ctx,bK s,sortD s.dead⟩/\t.dead.length<=s.dead.length/\∀ x∈t.K,EvSmall x.1)/\Below w.heap.size w w':=by
 have hcx:=hg.ctx;have hdd:=hg.dead;have hdl:(sortD s.dead).length<=s.dead.length:=fO _;have hK:∀ e∈bK s,dw e=true:=fun e he=>by
  obtain ⟨z,hz,e9⟩:=(dX hg.nd).1 he;rw [<- e9];exact (hg.inv.kept z hz).1
 have hlen:(bK s).length=s.K.length:=fQ hg.nd;have hp:=G7 (c:=s.ctx) (K:=bK s) (d:=sortD s.dead) (hg.inv.marks (by omega)) (by omega) hK (by omega) (fun x hx=>hg.inv.dead x (dm.1 hx));have hp2:pK (iy s)=(⟨[],0⟩,s.ctx,bK s,sortD s.dead):=by
  rw [hlen] at hp;exact hp
 have hld:kS s.ctx (bK s) (sortD s.dead)=0:=(hg.mono (by decide:20<=60)).loads (by decide) rfl (by unfold evsOf;rw [List.map_map];exact List.map_id _) rfl;have hfl:=zC hg hk;have hbl:=FM (st:=st) hd hi hfl;have hfr:(frameB (ckB d i st (iy s))).length<=1073741824:=by
  rw [vN];exact Nat.le_trans (Ib (by omega)) (by decide)
 refine (zM a cap _ w hfr hcap h (frOne_frame (by omega)) (MK hd hi hs (by omega)) hp2).mono fun x w' hr=>?_;obtain ⟨_,h2,h3⟩:=hr;obtain ⟨m,b,t,g1,g2,g3,g4,g5,g6,_⟩:=h2 (by unfold ckE;rw [hld];rfl);exact ⟨⟨m,b,t,g1,g2,g3,g4,Nat.le_trans g5 hdl,fun x hx=>vP (hK _ (g6 x hx))⟩,h3⟩
theorem Lp (d i:Int) (st:Stamp) (a:Option Addr) (cap:Nat) (ls:List EvIt) (w:World) (hE:EvsArg w a ls) :
 Calls prog 3 #[.agg (snA d i st (.slice a ls.length cap))] w fun x w'=>x=.returned (.bool true)/\Below w.heap.size w w':=by
 have HL0:∀ X,Below w.heap.size w X->Calls prog 4 #[.slice a ls.length cap,.int .i64 20] X fun x w'=>x=.returned (.bool (lightAll 20 (evsOf ls)))/\Below X.heap.size X w':=fun X hX=>Hm a cap 20 ls X (by decide) hE.len (hE.evs.kept hX) (fun x hx=>⟨(hE.each x hx).over,(hE.each x hx).name,(hE.each x hx).domain,(hE.each x hx).path,(hE.each x hx).value⟩);have HA:=aa JR;have hEi:=hE.evs
 cases hli:lightAll 20 (evsOf ls) with
 | false =>
   simp only [hli] at HL0;have HL:=aa HL0;clear HL0 hli hE hEi;go_enter func3,ntmps3;go_upto_region 1 with fail
   refine aU (fun W hW=>?_);have hb0:Below w.heap.size w W:=by rw [hW.out];go_grown
   have c5:W.cell? ⟨w.heap.size,5,none⟩=some (.slice a ls.length cap):=by rw [hW.out];exact o8 d i st (.slice a ls.length cap) w _ 5 _ rfl
   clear hW;go_wp2_with (first
    | (go_at_call 4;(with_reducible refine (HL.out _ hb0).mono ?_);rintro x w1 ⟨rfl,hb1⟩)
    | (go_at_call 5;(with_reducible refine (HA.out _).mono ?_);rintro x w2 ⟨rfl,hb2⟩))
   go_ret;exact ⟨rfl,below2 (below2 hb0 hb1) hb2⟩
 | true =>
   obtain ⟨hls,hsl⟩:=light_evs hli;simp only [hli] at HL0;have HL:=aa HL0;have HM:=aa (fun (X:World) (h:EvsIn X a ls)=>O4 d i st a cap ls X (by omega) h hsl);have HSL:=aa hsl;clear HL0 hli hsl hE;go_enter func3,ntmps3;go_upto_region 1 with fail
   refine aU (fun W hW=>?_);have hb0:Below w.heap.size w W:=by rw [hW.out];go_grown
   have hR0:W.rangeAt w.heap.size 0 (lN d i st (.slice a ls.length cap)):=by rw [hW.out];exact o8 d i st (.slice a ls.length cap) w _
   have c5:W.cell? ⟨w.heap.size,5,none⟩=some (.slice a ls.length cap):=hR0 5 _ rfl;clear hW;go_upto_region 3 with (go_at_call 4;(with_reducible refine (HL.out _ hb0).mono ?_);rintro x w1 ⟨rfl,hb1⟩)
   have Ah:=below2 hb0 hb1;have hE1:=hEi.kept Ah;have hR1:=ah hR0 hb1;clear hb0 hb1 hR0 c5 HL hEi;go_upto_region 4 with (first
    | ((with_reducible refine bC 26 _ w.heap.size 0 (lN d i st (.slice a ls.length cap)) (snV d i st (.slice a ls.length cap)) rfl _ underlying26 rfl (by kernel_rfl) hR1 ?_ rfl ?_);exact rfl)
    | (go_at_call 6;(with_reducible refine (HM.out _ hE1).mono ?_);rintro x w3 ⟨m,b,s,y,rfl,hm3,hb3⟩)
    | (refine wF 31 _ _ _ (snA d i st (.pointer (some ⟨m,0,none⟩))) _ rfl rfl (by kernel_rfl) rfl (by kernel_rfl) ?_)
    | (refine og 37 _ _ _ (rkA d i st y) (w3.heap.size+1) (by simp) rfl rfl (by kernel_rfl) rfl (by kernel_rfl) ?_))
   refine aU (fun V hV=>?_);have hbV:Below w3.heap.size w3 V:=by rw [hV.out];go_grown
   have hS1:V.rangeAt w3.heap.size 0 (lN d i st (.pointer (some ⟨m,0,none⟩))):=by rw [hV.out];exact ah (o8 _ _ _ _ _ _) ((Below.refl _ _).alloc (al _) _)
   have hT1:V.rangeAt (w3.heap.size+1) 0 (Ad d i st y):=by
    rw [hV.out];have:=Ij d i st y (w3.alloc (.cells (snA d i st (.pointer (some ⟨m,0,none⟩))) 31)) 37;rw [show (w3.alloc (.cells (snA d i st (.pointer (some ⟨m,0,none⟩))) 31)).heap.size=w3.heap.size+1 by simp] at this;exact this
   have hmp:=hm3.map.kept_w hbV;have hry:=hm3.ref.keep hbV;have hrel:=hm3.rel;have hg:SGood s 20:=(hm3.sg47 HSL.out).mono (by omega);have hk:s.K.length<=20:=by have:=hm3.len;rw [aW] at this;omega
   have hRV:=ah (ah hR1 hb3) hbV;have hbt:=below2 (below2 Ah hb3) hbV;clear hV hm3 hbV hb3 hR1 hE1 HM HSL Ah;generalize w3.heap.size=X1 at *;have k0:V.cell? ⟨w.heap.size,0,none⟩=some (.int .i64 d):=hRV 0 _ rfl;have k1:V.cell? ⟨w.heap.size,1,none⟩=some (.int .i64 i):=hRV 1 _ rfl;have V8:=aa (fun (X:World)=>JK d i ⟨0,0,0⟩ X)
   cases hok:uD d i st with
   | false =>
     have HB:=aa (fun (X:World)=>EF d i st m X hok);have HR0:=fun (X:World)=>wU d i st y X;simp only [hok] at HR0;have HR:=aa HR0;clear HR0 hok hmp hry hrel hg hk;go_upto_region 5 with (first
        | ((with_reducible refine bC 31 _ X1 0 (lN d i st (.pointer (some ⟨m,0,none⟩))) (snV d i st (.pointer (some ⟨m,0,none⟩))) rfl _ underlying31 rfl (by kernel_rfl) hS1 ?_ rfl ?_);exact rfl)
        | (go_at_call 7;(with_reducible refine (HB.out _).mono ?_);rintro x w5 ⟨rfl,hb5⟩))
     have j0:=kept hb5 k0;have j1:=kept hb5 k1;have hT5:=ah hT1 hb5;have RP:=below2 hbt hb5;clear k0 k1 hT1 hS1 hRV hbt hb5 HB;go_upto_region 6 with (first
        | (refine Great.wpList_buildTo rfl 31 _ rfl _ rfl (snA d i ⟨0,0,0⟩ (.pointer none)) (by kernel_rfl) ?_)
        | (go_at_call 7;(with_reducible refine (V8.out _).mono ?_);rintro x w6 ⟨rfl,hb6⟩))
     have hT6:=ah hT5 hb6;have TS:=below2 RP hb6;clear hT5 RP hb6 j0 j1;go_wp2_with (first
        | ((with_reducible refine bC 37 _ (X1+1) 0 (Ad d i st y) (.agg (rkA d i st y)) rfl _ underlying37 rfl (by kernel_rfl) hT6 ?_ rfl ?_);exact rfl)
        | (go_at_call 8;(with_reducible refine (HR.out _).mono ?_);rintro x w7 ⟨rfl,hb7⟩)
        | (go_at_call 5;(with_reducible refine (HA.out _).mono ?_);rintro x w8 ⟨rfl,hb8⟩))
     go_ret;exact ⟨rfl,below2 (below2 TS hb7) hb8⟩
   | true =>
     obtain ⟨d',i',rfl,rfl,hd,hi,hst⟩:=Qz hok;have HR0:=fun (X:World)=>wU d' i' st y X;simp only [hok] at HR0;have HR:=aa HR0;have hyc:y.ctx=s.ctx:=hrel.ctx;have hyd:y.dead.length<=1280:=by
        have h1:y.dead=sortD s.dead:=hrel.dead;rw [h1];exact Nat.le_trans (fO _) hg.dead
     have hyK:y.K.length<=20:=by
        have h3:=congrArg List.length hrel.kept;rw [fQ hg.nd] at h3;have h4:(evsOf y.K).length=s.K.length:=h3;rw [aW] at h4;omega
     have hme:bf y.ctx=0:=by rw [hyc];exact hg.inv.marks (by have:=hg.ctx;omega)
     obtain ⟨_,hoK,hoD⟩:=hrel.oks hg.inv;have hfl:=zC hg hk;have hbl:=FM (st:=st) hd hi hfl;have hfr:(frameB (ckB d' i' st (iy s))).length<=1048590:=by
        rw [vN];exact Ib (by omega)
     have HB:=aa (fun (X:World) (h:MpIn X m b s)=>zN d' i' st X h hg.inv hg.nd (by have:=hg.ctx;omega) (by have:=hg.dead;omega) (by omega) hd hi hst (by omega));have VZ:=fun (X:World) (h:RMIn X y)=>Gh d' i' st y X h hme (by omega) (by omega) hoK hoD hd hi hst (by rw [wR hrel];omega);rw [wR hrel] at VZ;have HRB:=aa VZ;have HP:=aa (fun (X:World) (p:Option Addr) (c:Nat) (hc:(frameB (ckB d' i' st (iy s))).length<=c) (h:BytesIn X p (frameB (ckB d' i' st (iy s))))=>ML hd hi hst hg hk p c X hc h);have hye:y.rm=⟨s.ctx,bK s,sortD s.dead⟩:=by
        show (⟨y.ctx,evsOf y.K,y.dead⟩:RM)=_;rw [hyc,show evsOf y.K=bK s from hrel.kept,show y.dead=sortD s.dead from hrel.dead]
     have HIS:=aa (fun (X:World) (n:Nat) (bn:MB) (t:MS) (ht:MInv t) (hr:Rel t ⟨s.ctx,bK s,sortD s.dead⟩) (hdl:t.dead.length<=s.dead.length) (hs:∀ x∈t.K,EvSmall x.1) (hn:MpIn X n bn t) (hI:RMIn X y)=>Sr d' i' st (m:=n) (b:=bn) (t:=t) X hn hI (fun X hn hI=>Pq (m:=n) (b:=bn) (s:=t) (y:=y) (Wv ht (by rw [hye];exact hr) (by have h1:t.ctx=s.ctx:=hr.ctx.symm;rw [h1];have:=hg.ctx;omega) (by have:=hg.dead;omega) hs) X hn hI));have HSF:=aa (fun (X:World) (p q:Option Addr) (c1 c2:Nat) (h1:BytesIn X p (frameB (ckB d' i' st (iy s)))) (h2:BytesIn X q (frameB (ckB d' i' st (iy s))))=>Bv p q c1 c2 (frameB (ckB d' i' st (iy s))) (frameB (ckB d' i' st (iy s))) X (by omega) (by omega) h1 h2);simp only [decide_true] at HSF;clear HR0 hok hrel hg hk hyc hyd hyK hme hoK hoD hfl hbl hfr VZ hye hd hi hst hRV;generalize frameB (ckB d' i' st (iy s))=fb at *;go_upto_region 5 with (first
        | ((with_reducible refine bC 31 _ X1 0 (lN d' i' st (.pointer (some ⟨m,0,none⟩))) (snV d' i' st (.pointer (some ⟨m,0,none⟩))) rfl _ underlying31 rfl (by kernel_rfl) hS1 ?_ rfl ?_);exact rfl)
        | (go_at_call 7;have h9:=HB.out _ hmp;(with_reducible refine h9.mono ?_);rintro x w5 ⟨v5,rfl,hown5,hb5⟩;obtain ⟨a5,c5,rfl,LJ⟩:=bT hown5;have Xv:=BN hown5))
     have j0:=kept hb5 k0;have j1:=kept hb5 k1;have hT5:=ah hT1 hb5;have RP:=below2 hbt hb5;have WN:=hry.keep hb5;clear k0 k1 hT1 hS1 hbt hb5 HB hmp hry hown5;go_upto_region 6 with (first
        | (refine Great.wpList_buildTo rfl 31 _ rfl _ rfl (snA d' i' ⟨0,0,0⟩ (.pointer none)) (by kernel_rfl) ?_)
        | (go_at_call 7;(with_reducible refine (V8.out _).mono ?_);rintro x w6 ⟨rfl,hb6⟩))
     have hT6:=ah hT5 hb6;have TS:=below2 RP hb6;have WM:=WN.keep hb6;have Dc:=BytesIn.kept LJ hb6;clear hT5 RP hb6 j0 j1 WN LJ V8;go_upto_region 10 with (first
        | ((with_reducible refine bC 37 _ (X1+1) 0 (Ad d' i' st y) (.agg (rkA d' i' st y)) rfl _ underlying37 rfl (by kernel_rfl) hT6 ?_ rfl ?_);exact rfl)
        | (go_at_call 8;(with_reducible refine (HR.out _).mono ?_);rintro x w7 ⟨rfl,hb7⟩))
     have hT7:=ah hT6 hb7;have Xy:=below2 TS hb7;have WL:=WM.keep hb7;have xu:=BytesIn.kept Dc hb7;clear hT6 TS hb7 WM Dc HR;go_upto_region 11 with (first
        | (go_at_call 9;have h9:=HP.out _ _ _ Xv xu;(with_reducible refine h9.mono ?_);rintro x w8 ⟨⟨n,bn,t,rfl,hn8,hti,htr,htd,hts⟩,hb8⟩)
        | (refine bH 31 _ _ _ (snA d' i' st (.pointer (some ⟨n,0,none⟩))) rfl rfl (by kernel_rfl) rfl (by kernel_rfl) ?_))
     refine aU (fun V9 hV=>?_);have hbv:Below w8.heap.size w8 V9:=by rw [hV.out];exact (Below.refl _ _).alloc (al _) _
     have hS9:V9.rangeAt w8.heap.size 0 (lN d' i' st (.pointer (some ⟨n,0,none⟩))):=by rw [hV.out];exact o8 _ _ _ _ _ _
     have hb9:=below2 hb8 hbv;have hT9:=ah hT7 hb9;have Yr:=aa (below2 Xy hb9);have WJ:=WL.keep hb9;have Vr:=BytesIn.kept xu hb9;have hn9:=hn8.kept_w hbv;have YF:=aa (fun (X:World)=>HIS.out X n bn t hti htr htd hts);clear hT7 Xy hb8 hb9 hbv hV WL xu hn8 hti htr htd hts HIS HP Xv;generalize w8.heap.size=X9 at *;go_wp2_with (first
        | ((with_reducible refine bC 37 _ (X1+1) 0 (Ad d' i' st y) (.agg (rkA d' i' st y)) rfl _ underlying37 rfl (by kernel_rfl) hT9 ?_ rfl ?_);exact rfl)
        | (go_at_call 11;have h9:=HRB.out _ WJ;(with_reducible refine h9.mono ?_);rintro x w10 ⟨v10,rfl,Vp,rW⟩;obtain ⟨a10,c10,rfl,Xi⟩:=bT Vp;have LJ:=BytesIn.kept Vr rW)
        | (go_at_call 10;have h9:=HSF.out _ _ _ c5 c10 LJ Xi;(with_reducible refine h9.mono ?_);rintro x w11 ⟨rfl,VE⟩;have Es:=below2 rW VE;have Yx:=ah hT9 Es;have Yy:=ah hS9 Es;have Yh:=hn9.kept_w Es;have WO:=WJ.keep Es)
        | ((with_reducible refine bC 31 _ X9 0 (lN d' i' st (.pointer (some ⟨n,0,none⟩))) (snV d' i' st (.pointer (some ⟨n,0,none⟩))) rfl _ underlying31 rfl (by kernel_rfl) Yy ?_ rfl ?_);exact rfl)
        | ((with_reducible refine bC 37 _ (X1+1) 0 (Ad d' i' st y) (.agg (rkA d' i' st y)) rfl _ underlying37 rfl (by kernel_rfl) Yx ?_ rfl ?_);exact rfl)
        | (go_at_call 12;have h9:=YF.out _ Yh WO;(with_reducible refine h9.mono ?_);rintro x w13 ⟨rfl,Jk⟩)
        | (go_at_call 5;(with_reducible refine (HA.out _).mono ?_);rintro x w14 ⟨rfl,Yv⟩))
     go_ret;exact ⟨rfl,below2 Yr.out (below2 Es (below2 Jk Yv))⟩
end Go.Proofs.YtffobmpeeopadaaGreat
