/- The law DeltaCovers, walked. Conditions: none. -/
import Derived.Test.YthphepeniaemoaaGreatIsB
import Derived.Test.YthphepeniaemoaaGreatWinners
import Derived.Test.YthphepeniaemoaaGreatRefWs
set_option linter.unusedSimpArgs false
set_option linter.unusedVariables false
set_option linter.unnecessarySimpa false
set_option maxHeartbeats 16000000
set_option maxRecDepth 100000
open Go.Proofs.Tryz
namespace Go.Proofs.YthphepeniaemoaaGreat
open Go.RowKit
/-- what Is calls -/
structure IsEnd (m:Nat) (b:MB) (s:MS) (y:RMIt):Prop where
 ctx:∀ X:World,MpIn X m b s->Calls prog 95 #[.pointer (some ⟨m,0,none⟩)] X fun e w'=>∃ a c,e=.returned (.slice a s.ctx.length c)/\DotsIn w' a s.ctx/\Below X.heap.size X w'
 sameM:∀ (X:World) (a:Option Addr) (c:Nat),DotsIn X a s.ctx->RMIn X y->Calls prog 94 #[.slice a s.ctx.length c,.slice y.ac y.ctx.length y.cc] X fun e w'=>e=.returned (.bool true)/\Below X.heap.size X w'
 evs:∀ X:World,MpIn X m b s->Calls prog 97 #[.pointer (some ⟨m,0,none⟩)] X fun e w'=>∃ a d c,e=.returned (.slice a d.length c)/\EvsIn w' a d/\evsOf d=bC s/\Below X.heap.size X w'
 sameE:∀ (X:World) (a:Option Addr) (d:List EvIt) (c:Nat),EvsIn X a d->evsOf d=bC s->RMIn X y->Calls prog 96 #[.slice a d.length c,.slice y.aK y.K.length y.cK] X fun e w'=>e=.returned (.bool true)/\Below X.heap.size X w'
 alive:∀ X:World,MpIn X m b s->Calls prog 98 #[.pointer (some ⟨m,0,none⟩)] X fun e w'=>∃ a d c,e=.returned (.slice a d.length c)/\EvsIn w' a d/\evsOf d=fH s/\Below X.heap.size X w'
 ralive:∀ X:World,RMIn X y->Calls prog 99 #[pg y] X fun e w'=>∃ a d c,e=.returned (.slice a d.length c)/\EvsIn w' a d/\evsOf d=fH s/\Below X.heap.size X w'
 all:∀ (X:World) (a1 a2:Option Addr) (c1 c2:Nat) (d1 d2:List EvIt),EvsIn X a1 d1->EvsIn X a2 d2->evsOf d1=fH s->evsOf d2=fH s->Calls prog 96 #[.slice a1 d1.length c1,.slice a2 d2.length c2] X fun e w'=>e=.returned (.bool true)/\Below X.heap.size X w'
 wins:∀ X:World,MpIn X m b s->Calls prog 100 #[.pointer (some ⟨m,0,none⟩)] X fun e w'=>∃ a d c,e=.returned (.slice a d.length c)/\EvsIn w' a d/\WinsOf s (evsOf d)/\Below X.heap.size X w'
 rwins:∀ X:World,RMIn X y->Calls prog 101 #[pg y] X fun e w'=>∃ a d c,e=.returned (.slice a d.length c)/\EvsIn w' a d/\WinsOf s (evsOf d)/\Below X.heap.size X w'
 allW:∀ (X:World) (a1 a2:Option Addr) (c1 c2:Nat) (d1 d2:List EvIt),EvsIn X a1 d1->EvsIn X a2 d2->WinsOf s (evsOf d1)->WinsOf s (evsOf d2)->Calls prog 96 #[.slice a1 d1.length c1,.slice a2 d2.length c2] X fun e w'=>e=.returned (.bool true)/\Below X.heap.size X w'
 len:∀ X:World,MpIn X m b s->Calls prog 20 #[.pointer (some ⟨m,0,none⟩)] X fun e w'=>e=.returned (.int .i64 y.K.length)/\X=w'
 deads:∀ X:World,MpIn X m b s->Calls prog 103 #[.pointer (some ⟨m,0,none⟩)] X fun e w'=>∃ a c,e=.returned (.slice a y.dead.length c)/\DotsIn w' a y.dead/\Below X.heap.size X w'
 sameD:∀ (X:World) (a:Option Addr) (c:Nat),DotsIn X a y.dead->RMIn X y->Calls prog 102 #[.slice a y.dead.length c,.slice y.ad y.dead.length y.cd] X fun e w'=>e=.returned (.bool true)/\Below X.heap.size X w'
theorem TZ {m:Nat} {b:MB} {s:MS} {y:RMIt} (hi:MInv s) (hr:Rel s y.rm) (hctx:s.ctx.length<=4096) (hdl:s.dead.length<=1048576) (hsm:∀ x∈s.K,EvSmall x.1):IsEnd m b s y:=by
 have hyc:y.ctx=s.ctx:=hr.ctx;have hyk:evsOf y.K=bC s:=hr.kept;have hyd:y.dead=sortD s.dead:=hr.dead;have hK2:=hi.len;have VU:y.dead.length<=1048576:=by rw [hyd];exact Nat.le_trans (gG _) hdl
 have hKl:y.K.length=s.K.length:=by rw [<- aQ,hyk,gU hr.nd]
 have QK:∀ x∈s.K,x.1.over.length<=64:=fun x hx=>(dK (hi.kept x hx).1).2.2.1;have WU:∀ e∈bC s,EvSmall e:=fun e he=>by
  obtain ⟨x,hx,rfl⟩:=(dQ hr.nd).1 he;exact hsm x hx
 have VX:∀ d:List EvIt,evsOf d=bC s->EvsSmall d/\d.length<=1073741824:=fun d hd=>by
  refine ⟨fun x hx=>WU _ (by rw [<- hd];exact List.mem_map_of_mem hx),?_⟩;rw [<- aQ,hd,gU hr.nd];omega
 have XG:∀ z∈y.K,∀ d∈z.1.over,bi d=true:=fun z hz=>by
  have h1:z.1∈bC s:=by rw [<- hyk];exact List.mem_map_of_mem hz
  obtain ⟨x,hx,e⟩:=(dQ hr.nd).1 h1;rw [<- e];exact hi.overOk hx
 have haE:∀ e∈fH s,EvSmall e:=fun e he=>by
  obtain ⟨⟨x,hx,rfl⟩,_⟩:=(mg hi hr.nd).1 he;exact hsm x hx
 have hal:=Jt hi hr;have haL:(fH s).length<=4096:=by
  rw [<- hal,aQ];have:=List.length_filter_le (iP y.dead) y.K;omega
 have VY:∀ d:List EvIt,evsOf d=fH s->EvsSmall d/\d.length<=1073741824:=fun d hd=>by
  refine ⟨fun x hx=>haE _ (by rw [<- hd];exact List.mem_map_of_mem hx),?_⟩;rw [<- aQ,hd];omega
 have hwl:∀ L,WinsOf s L->L.length<=4096:=fun L hL=>by
  have h1:L=(fH s).foldl (jl fun k=>(fQ (keyOfS s k)).1) []:=hL.ext (AQ hi hr.nd);have h2:∀ (l out:List Ev),(l.foldl (jl fun k=>(fQ (keyOfS s k)).1) out).length<=out.length+l.length:=by
   intro l;induction l with
   | nil=>exact fun out=>aq _
   | cons x l ih =>
     intro out;rw [List.foldl_cons,List.length_cons];have:=ih (jl (fun k=>(fQ (keyOfS s k)).1) out x);have:=JZ (fun k=>(fQ (keyOfS s k)).1) out x;omega
  have h3:=h2 (fH s) [];rw [<- h1,List.length_nil] at h3;omega
 have VW:∀ d:List EvIt,WinsOf s (evsOf d)->EvsSmall d/\d.length<=1073741824:=fun d hd=>by
  refine ⟨fun x hx=>haE _ ((hd.mem x.1).1 (List.mem_map_of_mem hx)).1,?_⟩;have:=hwl _ hd;rw [aQ] at this;omega
 refine ⟨fun X h=>Nr X h hi hctx,fun X a c h hI=>?_,fun X h=>?_,fun X a d c h hd hI=>?_,fun X h=>?_,fun X h=>?_,fun X a1 a2 c1 c2 d1 d2 h1 h2 e1 e2=>?_,fun X h=>?_,fun X h=>?_,fun X a1 a2 c1 c2 d1 d2 h1 h2 e1 e2=>?_,fun X h=>?_,fun X h=>?_,fun X a c h hI=>?_⟩
 ·have h1:=AX a y.ac c y.cc s.ctx y.ctx X (by omega) (by rw [hyc];omega) h hI.ctx
  rw [aR hyc.symm] at h1;exact h1
 ·refine (yV X h hi.len QK hi.dots).mono ?_
  rintro e w' ⟨a,d,c,rfl,h1,⟨h2,_⟩,h3⟩;exact ⟨a,d,c,rfl,h1,h2,h3⟩
 ·obtain ⟨s1,l1⟩:=VX d hd
  obtain ⟨s2,l2⟩:=VX y.K hyk;have h3:=qm a y.aK c y.cK d y.K X l1 l2 s1 s2 h hI.kept;rw [aR (hd.trans hyk.symm)] at h3;exact h3
 ·refine (KC X h hi hi.dots QK).mono ?_
  rintro e w' ⟨a,d,c,rfl,h1,⟨h2,_⟩,h3⟩;exact ⟨a,d,c,rfl,h1,h2,h3⟩
 ·refine (qp y X (by omega) VU h).mono ?_
  rintro e w' ⟨a,c,rfl,h1,_,h3⟩;exact ⟨a,_,c,rfl,h1,hal,h3⟩
 ·obtain ⟨s1,l1⟩:=VY d1 e1
  obtain ⟨s2,l2⟩:=VY d2 e2;have h3:=qm a1 a2 c1 c2 d1 d2 X l1 l2 s1 s2 h1 h2;rw [aR (e1.trans e2.symm)] at h3;exact h3
 ·refine (FZ X h hi).mono ?_
  rintro e w' ⟨ts,a,d,c,rfl,h1,h2,h3,h4,h5⟩;exact ⟨a,d,c,rfl,h1,by rw [h2];exact GK h hi hr.nd h3 h4,h5⟩
 ·refine (AU y X (by omega) VU h XG).mono ?_
  rintro e w' ⟨a,d,c,rfl,h1,h2,h3⟩;refine ⟨a,d,c,rfl,h1,?_,h3⟩;have hf:rwF (y.K.filter (iP y.dead))=fun k=>(fQ (keyOfS s k)).1:=by
   funext k;unfold rwF;rw [UL hi hr k]
  rw [h2,hf,hal];exact AQ hi hr.nd
 ·obtain ⟨s1,l1⟩:=VW d1 e1
  obtain ⟨s2,l2⟩:=VW d2 e2;have h3:=qm a1 a2 c1 c2 d1 d2 X l1 l2 s1 s2 h1 h2;rw [aR (e1.ext e2)] at h3;exact h3
 ·rw [hKl]
  exact Ii X h
 ·refine (BF X h (by omega) (fun d hd=>ig (hi.dead d hd))).mono ?_
  rintro e w' ⟨v,rfl,h1,_,h3⟩;obtain ⟨a,c,rfl,hd⟩:=gz h1;rw [hyd];exact ⟨a,c,rfl,hd,h3⟩
 ·have h1:=ul a y.ad c y.cd y.dead y.dead X (by omega) (by omega) h hI.dead
  rw [aR rfl] at h1;exact h1
theorem ED {m:Nat} {b:MB} {s:MS} {y:RMIt} (Tv:IsEnd m b s y) (w:World) (hm:MpIn w m b s) (hI:RMIn w y) :
 Calls prog 50 #[.pointer (some ⟨m,0,none⟩),pg y] w fun e w'=>e=.returned (.bool true)/\Below w.heap.size w w':=by
 have HEn:=aa Tv;clear Tv;go_enter func50,ntmps50;go_upto_region 1 with fail
 refine aN (fun V5 hV5=>?_);have hb0:Below w.heap.size w V5.drew:=by rw [hV5.out];go_grown
 have vA:RMAt V5.drew w.heap.size y:=by rw [hV5.out];exact bP _ _
 have vm:=hm.kept_w hb0;have vI:=hI.keep hb0;have vM:=vA.range;obtain ⟨vC0,vC1,vC2⟩:=vA.cells;have HB0:=aa hb0;have hne:((y.K.length:Int) != (y.K.length:Int))=false:=bne_self_eq_false _;clear hV5 hm hI hb0;refine wp_region_noPanic ?_;refine wp_region_held_drew (S:=fun W'=>Below V5.drew.heap.size V5.drew W') (by kernel_rfl) (bb _ _) (fun hHeld=>?_);refine tH (v:=?_) 0 5 rfl (a8 ⟨by rfl,?_⟩) ?_
 case refine_2 => exact z10
 try simp only [pS]
 refine tH (v:=?_) 2 7 rfl (a8 ⟨by rfl,?_⟩) ?_
 case refine_2 => exact z10
 try simp only [pS]
 refine tH (v:=?_) 3 8 rfl (a8 ⟨by rfl,?_⟩) ?_
 case refine_2 => exact z10
 try simp only [pS]
 refine rH 1 6 rfl fun K hK=>?_;go_simp;go_at_call 95;(with_reducible refine (HEn.out.ctx _ (vm.kept_w hHeld)).mono ?_)
 rintro v x1 ⟨a1,c1,rfl,hd1,hb1⟩;go_simp;have hNext:=hHeld.trans (hb1.mono hHeld.size);refine hK.out _ _ hNext (fun ag=>?_);clear hK K hHeld;have hHeld:=hNext;clear ag hNext;try simp only [pS]
 refine rH 4 9 rfl fun K hK=>?_;go_simp;go_at_call 94;(with_reducible refine (HEn.out.sameM _ a1 c1 hd1 (vI.keep hHeld)).mono ?_)
 rintro v x2 ⟨rfl,hb2⟩;go_simp;have hNext:=hHeld.trans (hb2.mono hHeld.size);refine hK.out _ _ hNext (fun ag=>?_);clear hK K hHeld;have hHeld:=hNext;clear ag hNext;try simp only [pS]
 clear hd1 hb1 hb2;refine tH (v:=?_) 5 10 rfl (a8 ⟨by rfl,?_⟩) ?_
 case refine_2 => exact z10
 try simp only [pS]
 refine tH (v:=?_) 6 11 rfl (a8 ⟨by rfl,?_⟩) ?_
 case refine_2 => exact z10
 try simp only [pS]
 refine tH (v:=?_) 7 12 rfl (a8 ⟨by rfl,?_⟩) ?_
 case refine_2 => exact z10
 try simp only [pS]
 refine tH (v:=?_) 9 14 rfl (a8 ⟨by rfl,?_⟩) ?_
 case refine_2 => exact z10
 try simp only [pS]
 refine tH (v:=?_) 10 15 rfl (a8 ⟨by rfl,?_⟩) ?_
 case refine_2 => exact z10
 try simp only [pS]
 refine rH 8 13 rfl fun K hK=>?_;go_simp;go_at_call 97;(with_reducible refine (HEn.out.evs _ (vm.kept_w hHeld)).mono ?_)
 rintro v x1 ⟨a2,d2,c2,rfl,hE2,hv2,hb1⟩;go_simp;have hNext:=hHeld.trans (hb1.mono hHeld.size);refine hK.out _ _ hNext (fun ag=>?_);clear hK K hHeld;have hHeld:=hNext;clear ag hNext;try simp only [pS]
 have HV2:=aa hv2;clear hv2;refine rH 11 16 rfl fun K hK=>?_;go_simp;go_at_call 96;(with_reducible refine (HEn.out.sameE _ a2 d2 c2 hE2 HV2.out (vI.keep hHeld)).mono ?_)
 rintro v x2 ⟨rfl,hb2⟩;go_simp;have hNext:=hHeld.trans (hb2.mono hHeld.size);refine hK.out _ _ hNext (fun ag=>?_);clear hK K hHeld;have hHeld:=hNext;clear ag hNext;try simp only [pS]
 clear hE2 hb1 hb2;refine tH (v:=?_) 12 17 rfl (a8 ⟨by rfl,?_⟩) ?_
 case refine_2 => exact z10
 try simp only [pS]
 refine tH (v:=?_) 13 18 rfl (a8 ⟨by rfl,?_⟩) ?_
 case refine_2 => exact z10
 try simp only [pS]
 refine tH (v:=?_) 14 19 rfl (a8 ⟨by rfl,?_⟩) ?_
 case refine_2 => exact z10
 try simp only [pS]
 refine tH (v:=?_) 15 20 rfl (a8 ⟨by rfl,?_⟩) ?_
 case refine_2 => exact z10
 try simp only [pS]
 refine tH 17 22 rfl (yieldsIf_load_mid (by rfl) 46 _ rfl w.heap.size 0 rfl (zW y) _ (fun X h=>ai vM h) underlying46 rfl (by kernel_rfl)) ?_;try simp only [pS]
 refine rH 16 21 rfl fun K hK=>?_;go_simp;go_at_call 98;(with_reducible refine (HEn.out.alive _ (vm.kept_w hHeld)).mono ?_)
 rintro v x1 ⟨a3,d3,c3,rfl,hE3,hv3,hb1⟩;go_simp;have hNext:=hHeld.trans (hb1.mono hHeld.size);refine hK.out _ _ hNext (fun ag=>?_);clear hK K hHeld;have hHeld:=hNext;clear ag hNext;try simp only [pS]
 have HV3:=aa hv3;clear hv3;refine rH 18 23 rfl fun K hK=>?_;go_simp;go_at_call 99;(with_reducible refine (HEn.out.ralive _ (vI.keep hHeld)).mono ?_)
 rintro v x2 ⟨a4,d4,c4,rfl,hE4,hv4,hb2⟩;go_simp;have hNext:=hHeld.trans (hb2.mono hHeld.size);refine hK.out _ _ hNext (fun ag=>?_);clear hK K hHeld;have hHeld:=hNext;clear ag hNext;try simp only [pS]
 have HV4:=aa hv4;clear hv4;refine rH 19 24 rfl fun K hK=>?_;go_simp;go_at_call 96;(with_reducible refine (HEn.out.all _ a3 a4 c3 c4 d3 d4 (hE3.kept hb2) hE4 HV3.out HV4.out).mono ?_)
 rintro v x3 ⟨rfl,hb3⟩;go_simp;have hNext:=hHeld.trans (hb3.mono hHeld.size);refine hK.out _ _ hNext (fun ag=>?_);clear hK K hHeld;have hHeld:=hNext;clear ag hNext;try simp only [pS]
 clear hE3 hE4 hb1 hb2 hb3;refine tH (v:=?_) 20 25 rfl (a8 ⟨by rfl,?_⟩) ?_
 case refine_2 => exact z10
 try simp only [pS]
 refine tH (v:=?_) 21 26 rfl (a8 ⟨by rfl,?_⟩) ?_
 case refine_2 => exact z10
 try simp only [pS]
 refine tH (v:=?_) 22 27 rfl (a8 ⟨by rfl,?_⟩) ?_
 case refine_2 => exact z10
 try simp only [pS]
 refine tH (v:=?_) 23 28 rfl (a8 ⟨by rfl,?_⟩) ?_
 case refine_2 => exact z10
 try simp only [pS]
 refine tH 25 30 rfl (yieldsIf_load_mid (by rfl) 46 _ rfl w.heap.size 0 rfl (zW y) _ (fun X h=>ai vM h) underlying46 rfl (by kernel_rfl)) ?_;try simp only [pS]
 refine rH 24 29 rfl fun K hK=>?_;go_simp;go_at_call 100;(with_reducible refine (HEn.out.wins _ (vm.kept_w hHeld)).mono ?_)
 rintro v x1 ⟨a5,d5,c5,rfl,hE5,hv5,hb1⟩;go_simp;have hNext:=hHeld.trans (hb1.mono hHeld.size);refine hK.out _ _ hNext (fun ag=>?_);clear hK K hHeld;have hHeld:=hNext;clear ag hNext;try simp only [pS]
 have HV5:=aa hv5;clear hv5;refine rH 26 31 rfl fun K hK=>?_;go_simp;go_at_call 101;(with_reducible refine (HEn.out.rwins _ (vI.keep hHeld)).mono ?_)
 rintro v x2 ⟨a6,d6,c6,rfl,hE6,hv6,hb2⟩;go_simp;have hNext:=hHeld.trans (hb2.mono hHeld.size);refine hK.out _ _ hNext (fun ag=>?_);clear hK K hHeld;have hHeld:=hNext;clear ag hNext;try simp only [pS]
 have HV6:=aa hv6;clear hv6;refine rH 27 32 rfl fun K hK=>?_;go_simp;go_at_call 96;(with_reducible refine (HEn.out.allW _ a5 a6 c5 c6 d5 d6 (hE5.kept hb2) hE6 HV5.out HV6.out).mono ?_)
 rintro v x3 ⟨rfl,hb3⟩;go_simp;have hNext:=hHeld.trans (hb3.mono hHeld.size);refine hK.out _ _ hNext (fun ag=>?_);clear hK K hHeld;have hHeld:=hNext;clear ag hNext;try simp only [pS]
 clear hE5 hE6 hb1 hb2 hb3;refine tH (v:=?_) 28 33 rfl (a8 ⟨by rfl,?_⟩) ?_
 case refine_2 => exact z10
 try simp only [pS]
 refine tH (v:=?_) 29 34 rfl (a8 ⟨by rfl,?_⟩) ?_
 case refine_2 => exact z10
 try simp only [pS]
 refine tH (v:=?_) 30 35 rfl (a8 ⟨by rfl,?_⟩) ?_
 case refine_2 => exact z10
 try simp only [pS]
 refine tH (v:=?_) 31 36 rfl (a8 ⟨by rfl,?_⟩) ?_
 case refine_2 => exact z10
 try simp only [pS]
 refine tH (v:=?_) 33 38 rfl (a8 ⟨by rfl,?_⟩) ?_
 case refine_2 => exact z10
 try simp only [pS]
 refine tH (v:=?_) 34 39 rfl (a8 ⟨by rfl,?_⟩) ?_
 case refine_2 => exact z10
 try simp only [pS]
 refine tH (v:=?_) 35 40 rfl (a8 ⟨by rfl,?_⟩) ?_
 case refine_2 => exact z10
 try simp only [pS]
 refine rH 32 37 rfl fun K hK=>?_;go_simp;go_at_call 20;(with_reducible refine (HEn.out.len _ (vm.kept_w hHeld)).mono ?_)
 rintro v x1 ⟨rfl,rfl⟩;go_simp;have hNext:=hHeld;refine hK.out _ _ hNext (fun ag=>?_);clear hK K hHeld;have hHeld:=hNext;clear ag hNext;try simp only [pS]
 refine tH (v:=?_) 36 41 rfl (a8 ⟨by rfl,?_⟩) ?_
 case refine_2 => exact z10
 try simp only [pS]
 refine tH (v:=?_) 37 42 rfl (a8 ⟨by rfl,?_⟩) ?_
 case refine_2 => exact z10
 try simp only [pS]
 refine wpAnyH_done (by kernel_rfl) ?_ _;refine NoPanic.normal ?_;have wm:=vm.kept_w hHeld;have wI:=vI.keep hHeld;have wA:=vA.kept hHeld;have HBX:=aa (HB0.out.trans (hHeld.mono HB0.out.size));clear vm vI vA vM vC0 vC1 vC2 hHeld hne;go_upto_region 3 with fail
 refine aN (fun V6 hV6=>?_);have hb6:Below x3.heap.size x3 V6.drew:=by rw [hV6.out];go_grown
 have vm:=wm.kept_w hb6;have vI:=wI.keep hb6;obtain ⟨vC0,vC1,vC2⟩:=(wA.kept hb6).cells;have HB6:=aa (HBX.out.trans (hb6.mono HBX.out.size));clear hV6 hb6 wm wI wA;refine wp_region_noPanic ?_;refine wp_region_held_drew (S:=fun W'=>Below V6.drew.heap.size V6.drew W') (by kernel_rfl) (bb _ _) (fun hHeld=>?_);refine tH (v:=?_) 0 43 rfl (a8 ⟨by rfl,?_⟩) ?_
 case refine_2 => exact z10
 try simp only [pS]
 refine tH (v:=?_) 2 45 rfl (a8 ⟨by rfl,?_⟩) ?_
 case refine_2 => exact z10
 try simp only [pS]
 refine tH (v:=?_) 3 46 rfl (a8 ⟨by rfl,?_⟩) ?_
 case refine_2 => exact z10
 try simp only [pS]
 refine rH 1 44 rfl fun K hK=>?_;go_simp;go_at_call 103;(with_reducible refine (HEn.out.deads _ (vm.kept_w hHeld)).mono ?_)
 rintro v x1 ⟨a1,c1,rfl,hd1,hb1⟩;go_simp;have hNext:=hHeld.trans (hb1.mono hHeld.size);refine hK.out _ _ hNext (fun ag=>?_);clear hK K hHeld;have hHeld:=hNext;clear ag hNext;try simp only [pS]
 refine rH 4 47 rfl fun K hK=>?_;go_simp;go_at_call 102;(with_reducible refine (HEn.out.sameD _ a1 c1 hd1 (vI.keep hHeld)).mono ?_)
 rintro v x2 ⟨rfl,hb2⟩;go_simp;have hNext:=hHeld.trans (hb2.mono hHeld.size);refine hK.out _ _ hNext (fun ag=>?_);clear hK K hHeld;have hHeld:=hNext;clear ag hNext;try simp only [pS]
 clear hd1 hb1 hb2;refine tH (v:=?_) 5 4 rfl (a8 ⟨by rfl,?_⟩) ?_
 case refine_2 => exact z10
 try simp only [pS]
 refine wpAnyH_done (by kernel_rfl) ?_ _;refine NoPanic.normal ?_;have HZ:=aa (HB6.out.trans (hHeld.mono HB6.out.size));clear hHeld vm vI vC0 vC1 vC2;go_wp2;go_ret;exact ⟨rfl,HZ.out⟩
end Go.Proofs.YthphepeniaemoaaGreat
