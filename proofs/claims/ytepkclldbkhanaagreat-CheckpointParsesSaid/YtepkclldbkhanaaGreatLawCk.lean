/- The law DeltaCovers, walked. Conditions: none. -/
import Derived.Test.YtepkclldbkhanaaGreatCanA
import Derived.Test.YtepkclldbkhanaaGreatWinners
import Derived.Test.YtepkclldbkhanaaGreatRefWs
import Derived.Test.YtepkclldbkhanaaGreatCkC
import Derived.Test.YtepkclldbkhanaaGreatCkD
set_option linter.unusedSimpArgs false
set_option linter.unusedVariables false
set_option linter.unnecessarySimpa false
set_option maxHeartbeats 16000000
set_option maxRecDepth 100000
open Go.Proofs.Tryz
namespace Go.Proofs.YtepkclldbkhanaaGreat
open Go.RowKit
/-- what Is calls -/
structure IsEnd (m:Nat) (b:MB) (s:MS) (y:RMIt):Prop where
 ctx:∀ X:World,MpIn X m b s→Calls prog 77 #[.pointer (some ⟨m,0,none⟩)] X fun e w'=>∃ a c,e=.returned (.slice a s.ctx.length c)∧DotsIn w' a s.ctx∧Below X.heap.size X w'
 sameM:∀ (X:World) (a:Option Addr) (c:Nat),DotsIn X a s.ctx→RMIn X y→Calls prog 76 #[.slice a s.ctx.length c,.slice y.ac y.ctx.length y.cc] X fun e w'=>e=.returned (.bool true)∧Below X.heap.size X w'
 evs:∀ X:World,MpIn X m b s→Calls prog 65 #[.pointer (some ⟨m,0,none⟩)] X fun e w'=>∃ a d c,e=.returned (.slice a d.length c)∧EvsIn w' a d∧aU d=dh s∧Below X.heap.size X w'
 sameE:∀ (X:World) (a:Option Addr) (d:List bH) (c:Nat),EvsIn X a d→aU d=dh s→RMIn X y→Calls prog 78 #[.slice a d.length c,.slice y.aK y.K.length y.cK] X fun e w'=>e=.returned (.bool true)∧Below X.heap.size X w'
 alive:∀ X:World,MpIn X m b s→Calls prog 79 #[.pointer (some ⟨m,0,none⟩)] X fun e w'=>∃ a d c,e=.returned (.slice a d.length c)∧EvsIn w' a d∧aU d=fK s∧Below X.heap.size X w'
 ralive:∀ X:World,RMIn X y→Calls prog 80 #[qV y] X fun e w'=>∃ a d c,e=.returned (.slice a d.length c)∧EvsIn w' a d∧aU d=fK s∧Below X.heap.size X w'
 all:∀ (X:World) (a1 a2:Option Addr) (c1 c2:Nat) (d1 d2:List bH),EvsIn X a1 d1→EvsIn X a2 d2→aU d1=fK s→aU d2=fK s→Calls prog 78 #[.slice a1 d1.length c1,.slice a2 d2.length c2] X fun e w'=>e=.returned (.bool true)∧Below X.heap.size X w'
 wins:∀ X:World,MpIn X m b s→Calls prog 81 #[.pointer (some ⟨m,0,none⟩)] X fun e w'=>∃ a d c,e=.returned (.slice a d.length c)∧EvsIn w' a d∧WinsOf s (aU d)∧Below X.heap.size X w'
 rwins:∀ X:World,RMIn X y→Calls prog 82 #[qV y] X fun e w'=>∃ a d c,e=.returned (.slice a d.length c)∧EvsIn w' a d∧WinsOf s (aU d)∧Below X.heap.size X w'
 allW:∀ (X:World) (a1 a2:Option Addr) (c1 c2:Nat) (d1 d2:List bH),EvsIn X a1 d1→EvsIn X a2 d2→WinsOf s (aU d1)→WinsOf s (aU d2)→Calls prog 78 #[.slice a1 d1.length c1,.slice a2 d2.length c2] X fun e w'=>e=.returned (.bool true)∧Below X.heap.size X w'
 len:∀ X:World,MpIn X m b s→Calls prog 15 #[.pointer (some ⟨m,0,none⟩)] X fun e w'=>e=.returned (.int .i64 y.K.length)∧X=w'
 deads:∀ X:World,MpIn X m b s→Calls prog 68 #[.pointer (some ⟨m,0,none⟩)] X fun e w'=>∃ a c,e=.returned (.slice a y.dead.length c)∧DotsIn w' a y.dead∧Below X.heap.size X w'
 sameD:∀ (X:World) (a:Option Addr) (c:Nat),DotsIn X a y.dead→RMIn X y→Calls prog 83 #[.slice a y.dead.length c,.slice y.ad y.dead.length y.cd] X fun e w'=>e=.returned (.bool true)∧Below X.heap.size X w'
theorem UY {m:Nat} {b:MB} {s:MS} {y:RMIt} (hi:MInv s) (hr:Rel s y.rm) (hctx:s.ctx.length≤4096) (hdl:s.dead.length≤1048576) (hsm:∀ x∈s.K,EvSmall x.1):IsEnd m b s y:=by
 have hyc:y.ctx=s.ctx:=hr.ctx;have hyk:aU y.K=dh s:=hr.kept;have hyd:y.dead=sortD s.dead:=hr.dead;have hK2:=hi.len;have U8:y.dead.length≤1048576:=by rw [hyd];exact Nat.le_trans (jD _) hdl
 have hKl:y.K.length=s.K.length:=by rw [← bi,hyk,jI hr.nd]
 have P8:∀ x∈s.K,x.1.over.length≤64:=fun x hx=>(fE (hi.kept x hx).1).2.2.1;have VG:∀ e∈dh s,EvSmall e:=fun e he=>by
  obtain ⟨x,hx,rfl⟩:=(iG hr.nd).1 he;exact hsm x hx
 have Vd:∀ d:List bH,aU d=dh s→fA d∧d.length≤1073741824:=fun d hd=>by
  refine ⟨fun x hx=>VG _ (by rw [← hd];exact List.mem_map_of_mem hx),?_⟩;rw [← bi,hd,jI hr.nd];omega
 have WI:∀ z∈y.K,∀ d∈z.1.over,bJ d=true:=fun z hz=>by
  have h1:z.1∈dh s:=by rw [← hyk];exact List.mem_map_of_mem hz
  obtain ⟨x,hx,e⟩:=(iG hr.nd).1 h1;rw [← e];exact hi.overOk hx
 have haE:∀ e∈fK s,EvSmall e:=fun e he=>by
  obtain ⟨⟨x,hx,rfl⟩,_⟩:=(lV hi hr.nd).1 he;exact hsm x hx
 have hal:=IX hi hr;have haL:(fK s).length≤4096:=by
  rw [← hal,bi];have:=List.length_filter_le (iR y.dead) y.K;omega
 have Ve:∀ d:List bH,aU d=fK s→fA d∧d.length≤1073741824:=fun d hd=>by
  refine ⟨fun x hx=>haE _ (by rw [← hd];exact List.mem_map_of_mem hx),?_⟩;rw [← bi,hd];omega
 have hwl:∀ L,WinsOf s L→L.length≤4096:=fun L hL=>by
  have h1:L=(fK s).foldl (jg fun k=>(fP (keyOfS s k)).1) []:=hL.ext (zU hi hr.nd);have h2:∀ (l out:List Ev),(l.foldl (jg fun k=>(fP (keyOfS s k)).1) out).length≤out.length+l.length:=by
   intro l;induction l with
   | nil=>exact fun out=>Nat.le_refl _
   | cons x l ih =>
     intro out;rw [List.foldl_cons,List.length_cons];have:=ih (jg (fun k=>(fP (keyOfS s k)).1) out x);have:=Jz (fun k=>(fP (keyOfS s k)).1) out x;omega
  have h3:=h2 (fK s) [];rw [← h1,List.length_nil] at h3;omega
 have Vb:∀ d:List bH,WinsOf s (aU d)→fA d∧d.length≤1073741824:=fun d hd=>by
  refine ⟨fun x hx=>haE _ ((hd.mem x.1).1 (List.mem_map_of_mem hx)).1,?_⟩;have:=hwl _ hd;rw [bi] at this;omega
 refine ⟨fun X h=>LY X h hi hctx,fun X a c h hI=>?_,fun X h=>?_,fun X a d c h hd hI=>?_,fun X h=>?_,fun X h=>?_,fun X a1 a2 c1 c2 d1 d2 h1 h2 e1 e2=>?_,fun X h=>?_,fun X h=>?_,fun X a1 a2 c1 c2 d1 d2 h1 h2 e1 e2=>?_,fun X h=>?_,fun X h=>?_,fun X a c h hI=>?_⟩
 ·have h1:=zX a y.ac c y.cc s.ctx y.ctx X (by omega) (by rw [hyc];omega) h hI.ctx
  rw [decide_eq_true hyc.symm] at h1;exact h1
 ·refine (yj X h hi.len P8 hi.dots).mono ?_
  rintro e w' ⟨a,d,c,rfl,h1,⟨h2,_⟩,h3⟩;exact ⟨a,d,c,rfl,h1,h2,h3⟩
 ·obtain ⟨s1,l1⟩:=Vd d hd
  obtain ⟨s2,l2⟩:=Vd y.K hyk;have h3:=qA a y.aK c y.cK d y.K X l1 l2 s1 s2 h hI.kept;rw [decide_eq_true (hd.trans hyk.symm)] at h3;exact h3
 ·refine (JY X h hi hi.dots P8).mono ?_
  rintro e w' ⟨a,d,c,rfl,h1,⟨h2,_⟩,h3⟩;exact ⟨a,d,c,rfl,h1,h2,h3⟩
 ·refine (qC y X (by omega) U8 h).mono ?_
  rintro e w' ⟨a,c,rfl,h1,_,h3⟩;exact ⟨a,_,c,rfl,h1,hal,h3⟩
 ·obtain ⟨s1,l1⟩:=Ve d1 e1
  obtain ⟨s2,l2⟩:=Ve d2 e2;have h3:=qA a1 a2 c1 c2 d1 d2 X l1 l2 s1 s2 h1 h2;rw [decide_eq_true (e1.trans e2.symm)] at h3;exact h3
 ·refine (Fj X h hi).mono ?_
  rintro e w' ⟨ts,a,d,c,rfl,h1,h2,h3,h4,h5⟩;exact ⟨a,d,c,rfl,h1,by rw [h2];exact Gf h hi hr.nd h3 h4,h5⟩
 ·refine (zV y X (by omega) U8 h WI).mono ?_
  rintro e w' ⟨a,d,c,rfl,h1,h2,h3⟩;refine ⟨a,d,c,rfl,h1,?_,h3⟩;have hf:rwF (y.K.filter (iR y.dead))=fun k=>(fP (keyOfS s k)).1:=by
   funext k;unfold rwF;rw [TP hi hr k]
  rw [h2,hf,hal];exact zU hi hr.nd
 ·obtain ⟨s1,l1⟩:=Vb d1 e1
  obtain ⟨s2,l2⟩:=Vb d2 e2;have h3:=qA a1 a2 c1 c2 d1 d2 X l1 l2 s1 s2 h1 h2;rw [decide_eq_true (e1.ext e2)] at h3;exact h3
 ·rw [hKl]
  exact G5 X h
 ·refine (AP X h (by omega) (fun d hd=>lJ (hi.dead d hd))).mono ?_
  rintro e w' ⟨v,rfl,h1,_,h3⟩;obtain ⟨a,c,rfl,hd⟩:=iF h1;rw [hyd];exact ⟨a,c,rfl,hd,h3⟩
 ·have h1:=ui a y.ad c y.cd y.dead y.dead X (by omega) (by omega) h hI.dead
  rw [decide_eq_true rfl] at h1;exact h1
theorem z8 {p : Prop} (h : p := by (intro w hSw; have sC0 := kept hSw vC0; have sC1 := kept hSw vC1; have sC2 := kept hSw vC2; go_simp; try with_reducible rfl)) : p := h
theorem Og {m:Nat} {b:MB} {s:MS} {y:RMIt} (RQ:IsEnd m b s y) (w:World) (hm:MpIn w m b s) (hI:RMIn w y) :
 Calls prog 35 #[.pointer (some ⟨m,0,none⟩),qV y] w fun e w'=>e=.returned (.bool true)∧Below w.heap.size w w':=by
 have HEn:=Lib.hid RQ;clear RQ;go_enter func35,ntmps35;go_upto_region 1 with fail
 refine au (fun V5 hV5=>?_);have hb0:Below w.heap.size w V5.drew:=by rw [hV5.out];go_grown
 have vA:RMAt V5.drew w.heap.size y:=by rw [hV5.out];exact dE _ _
 have vm:=hm.kept_w hb0;have vI:=hI.keep hb0;have vM:=vA.range;obtain ⟨vC0,vC1,vC2⟩:=vA.cells;have HB0:=Lib.hid hb0;have hne:((y.K.length:Int) != (y.K.length:Int))=false:=bne_self_eq_false _;clear hV5 hm hI hb0;refine wp_region_noPanic ?_;refine wp_region_held_drew (S:=fun W'=>Below V5.drew.heap.size V5.drew W') (by kernel_rfl) (Below.refl _ _) (fun hHeld=>?_);refine tH (v:=?_) 0 5 rfl (Or.inl ⟨by rfl,?_⟩) ?_
 case refine_2 => exact z8
 try simp only [pS]
 refine tH (v:=?_) 2 7 rfl (Or.inl ⟨by rfl,?_⟩) ?_
 case refine_2 => exact z8
 try simp only [pS]
 refine tH (v:=?_) 3 8 rfl (Or.inl ⟨by rfl,?_⟩) ?_
 case refine_2 => exact z8
 try simp only [pS]
 refine rH 1 6 rfl fun K hK=>?_;go_simp;go_at_call 77;(with_reducible refine (HEn.out.ctx _ (vm.kept_w hHeld)).mono ?_)
 rintro v x1 ⟨a1,c1,rfl,hd1,hb1⟩;go_simp;have hNext:=hHeld.trans (hb1.mono hHeld.size);refine hK.out _ _ hNext (fun aQ=>?_);clear hK K hHeld;have hHeld:=hNext;clear aQ hNext;try simp only [pS]
 refine rH 4 9 rfl fun K hK=>?_;go_simp;go_at_call 76;(with_reducible refine (HEn.out.sameM _ a1 c1 hd1 (vI.keep hHeld)).mono ?_)
 rintro v x2 ⟨rfl,hb2⟩;go_simp;have hNext:=hHeld.trans (hb2.mono hHeld.size);refine hK.out _ _ hNext (fun aQ=>?_);clear hK K hHeld;have hHeld:=hNext;clear aQ hNext;try simp only [pS]
 clear hd1 hb1 hb2;refine tH (v:=?_) 5 10 rfl (Or.inl ⟨by rfl,?_⟩) ?_
 case refine_2 => exact z8
 try simp only [pS]
 refine tH (v:=?_) 6 11 rfl (Or.inl ⟨by rfl,?_⟩) ?_
 case refine_2 => exact z8
 try simp only [pS]
 refine tH (v:=?_) 7 12 rfl (Or.inl ⟨by rfl,?_⟩) ?_
 case refine_2 => exact z8
 try simp only [pS]
 refine tH (v:=?_) 9 14 rfl (Or.inl ⟨by rfl,?_⟩) ?_
 case refine_2 => exact z8
 try simp only [pS]
 refine tH (v:=?_) 10 15 rfl (Or.inl ⟨by rfl,?_⟩) ?_
 case refine_2 => exact z8
 try simp only [pS]
 refine rH 8 13 rfl fun K hK=>?_;go_simp;go_at_call 65;(with_reducible refine (HEn.out.evs _ (vm.kept_w hHeld)).mono ?_)
 rintro v x1 ⟨a2,d2,c2,rfl,hE2,hv2,hb1⟩;go_simp;have hNext:=hHeld.trans (hb1.mono hHeld.size);refine hK.out _ _ hNext (fun aQ=>?_);clear hK K hHeld;have hHeld:=hNext;clear aQ hNext;try simp only [pS]
 have HV2:=Lib.hid hv2;clear hv2;refine rH 11 16 rfl fun K hK=>?_;go_simp;go_at_call 78;(with_reducible refine (HEn.out.sameE _ a2 d2 c2 hE2 HV2.out (vI.keep hHeld)).mono ?_)
 rintro v x2 ⟨rfl,hb2⟩;go_simp;have hNext:=hHeld.trans (hb2.mono hHeld.size);refine hK.out _ _ hNext (fun aQ=>?_);clear hK K hHeld;have hHeld:=hNext;clear aQ hNext;try simp only [pS]
 clear hE2 hb1 hb2;refine tH (v:=?_) 12 17 rfl (Or.inl ⟨by rfl,?_⟩) ?_
 case refine_2 => exact z8
 try simp only [pS]
 refine tH (v:=?_) 13 18 rfl (Or.inl ⟨by rfl,?_⟩) ?_
 case refine_2 => exact z8
 try simp only [pS]
 refine tH (v:=?_) 14 19 rfl (Or.inl ⟨by rfl,?_⟩) ?_
 case refine_2 => exact z8
 try simp only [pS]
 refine tH (v:=?_) 15 20 rfl (Or.inl ⟨by rfl,?_⟩) ?_
 case refine_2 => exact z8
 try simp only [pS]
 refine tH 17 22 rfl (yieldsIf_load_mid (by rfl) 36 _ rfl w.heap.size 0 rfl (zo y) _ (fun X h=>aj vM h) underlying36 rfl (by kernel_rfl)) ?_;try simp only [pS]
 refine rH 16 21 rfl fun K hK=>?_;go_simp;go_at_call 79;(with_reducible refine (HEn.out.alive _ (vm.kept_w hHeld)).mono ?_)
 rintro v x1 ⟨a3,d3,c3,rfl,hE3,hv3,hb1⟩;go_simp;have hNext:=hHeld.trans (hb1.mono hHeld.size);refine hK.out _ _ hNext (fun aQ=>?_);clear hK K hHeld;have hHeld:=hNext;clear aQ hNext;try simp only [pS]
 have HV3:=Lib.hid hv3;clear hv3;refine rH 18 23 rfl fun K hK=>?_;go_simp;go_at_call 80;(with_reducible refine (HEn.out.ralive _ (vI.keep hHeld)).mono ?_)
 rintro v x2 ⟨a4,d4,c4,rfl,hE4,hv4,hb2⟩;go_simp;have hNext:=hHeld.trans (hb2.mono hHeld.size);refine hK.out _ _ hNext (fun aQ=>?_);clear hK K hHeld;have hHeld:=hNext;clear aQ hNext;try simp only [pS]
 have HV4:=Lib.hid hv4;clear hv4;refine rH 19 24 rfl fun K hK=>?_;go_simp;go_at_call 78;(with_reducible refine (HEn.out.all _ a3 a4 c3 c4 d3 d4 (hE3.kept hb2) hE4 HV3.out HV4.out).mono ?_)
 rintro v x3 ⟨rfl,hb3⟩;go_simp;have hNext:=hHeld.trans (hb3.mono hHeld.size);refine hK.out _ _ hNext (fun aQ=>?_);clear hK K hHeld;have hHeld:=hNext;clear aQ hNext;try simp only [pS]
 clear hE3 hE4 hb1 hb2 hb3;refine tH (v:=?_) 20 25 rfl (Or.inl ⟨by rfl,?_⟩) ?_
 case refine_2 => exact z8
 try simp only [pS]
 refine tH (v:=?_) 21 26 rfl (Or.inl ⟨by rfl,?_⟩) ?_
 case refine_2 => exact z8
 try simp only [pS]
 refine tH (v:=?_) 22 27 rfl (Or.inl ⟨by rfl,?_⟩) ?_
 case refine_2 => exact z8
 try simp only [pS]
 refine tH (v:=?_) 23 28 rfl (Or.inl ⟨by rfl,?_⟩) ?_
 case refine_2 => exact z8
 try simp only [pS]
 refine tH 25 30 rfl (yieldsIf_load_mid (by rfl) 36 _ rfl w.heap.size 0 rfl (zo y) _ (fun X h=>aj vM h) underlying36 rfl (by kernel_rfl)) ?_;try simp only [pS]
 refine rH 24 29 rfl fun K hK=>?_;go_simp;go_at_call 81;(with_reducible refine (HEn.out.wins _ (vm.kept_w hHeld)).mono ?_)
 rintro v x1 ⟨a5,d5,c5,rfl,hE5,hv5,hb1⟩;go_simp;have hNext:=hHeld.trans (hb1.mono hHeld.size);refine hK.out _ _ hNext (fun aQ=>?_);clear hK K hHeld;have hHeld:=hNext;clear aQ hNext;try simp only [pS]
 have HV5:=Lib.hid hv5;clear hv5;refine rH 26 31 rfl fun K hK=>?_;go_simp;go_at_call 82;(with_reducible refine (HEn.out.rwins _ (vI.keep hHeld)).mono ?_)
 rintro v x2 ⟨a6,d6,c6,rfl,hE6,hv6,hb2⟩;go_simp;have hNext:=hHeld.trans (hb2.mono hHeld.size);refine hK.out _ _ hNext (fun aQ=>?_);clear hK K hHeld;have hHeld:=hNext;clear aQ hNext;try simp only [pS]
 have HV6:=Lib.hid hv6;clear hv6;refine rH 27 32 rfl fun K hK=>?_;go_simp;go_at_call 78;(with_reducible refine (HEn.out.allW _ a5 a6 c5 c6 d5 d6 (hE5.kept hb2) hE6 HV5.out HV6.out).mono ?_)
 rintro v x3 ⟨rfl,hb3⟩;go_simp;have hNext:=hHeld.trans (hb3.mono hHeld.size);refine hK.out _ _ hNext (fun aQ=>?_);clear hK K hHeld;have hHeld:=hNext;clear aQ hNext;try simp only [pS]
 clear hE5 hE6 hb1 hb2 hb3;refine tH (v:=?_) 28 33 rfl (Or.inl ⟨by rfl,?_⟩) ?_
 case refine_2 => exact z8
 try simp only [pS]
 refine tH (v:=?_) 29 34 rfl (Or.inl ⟨by rfl,?_⟩) ?_
 case refine_2 => exact z8
 try simp only [pS]
 refine tH (v:=?_) 30 35 rfl (Or.inl ⟨by rfl,?_⟩) ?_
 case refine_2 => exact z8
 try simp only [pS]
 refine tH (v:=?_) 31 36 rfl (Or.inl ⟨by rfl,?_⟩) ?_
 case refine_2 => exact z8
 try simp only [pS]
 refine tH (v:=?_) 33 38 rfl (Or.inl ⟨by rfl,?_⟩) ?_
 case refine_2 => exact z8
 try simp only [pS]
 refine tH (v:=?_) 34 39 rfl (Or.inl ⟨by rfl,?_⟩) ?_
 case refine_2 => exact z8
 try simp only [pS]
 refine tH (v:=?_) 35 40 rfl (Or.inl ⟨by rfl,?_⟩) ?_
 case refine_2 => exact z8
 try simp only [pS]
 refine rH 32 37 rfl fun K hK=>?_;go_simp;go_at_call 15;(with_reducible refine (HEn.out.len _ (vm.kept_w hHeld)).mono ?_)
 rintro v x1 ⟨rfl,rfl⟩;go_simp;have hNext:=hHeld;refine hK.out _ _ hNext (fun aQ=>?_);clear hK K hHeld;have hHeld:=hNext;clear aQ hNext;try simp only [pS]
 refine tH (v:=?_) 36 41 rfl (Or.inl ⟨by rfl,?_⟩) ?_
 case refine_2 => exact z8
 try simp only [pS]
 refine tH (v:=?_) 37 42 rfl (Or.inl ⟨by rfl,?_⟩) ?_
 case refine_2 => exact z8
 try simp only [pS]
 refine wpAnyH_done (by kernel_rfl) ?_ _;refine NoPanic.normal ?_;have wm:=vm.kept_w hHeld;have wI:=vI.keep hHeld;have wA:=vA.kept hHeld;have HBX:=Lib.hid (HB0.out.trans (hHeld.mono HB0.out.size));clear vm vI vA vM vC0 vC1 vC2 hHeld hne;go_upto_region 3 with fail
 refine au (fun V6 hV6=>?_);have hb6:Below x3.heap.size x3 V6.drew:=by rw [hV6.out];go_grown
 have vm:=wm.kept_w hb6;have vI:=wI.keep hb6;obtain ⟨vC0,vC1,vC2⟩:=(wA.kept hb6).cells;have HB6:=Lib.hid (HBX.out.trans (hb6.mono HBX.out.size));clear hV6 hb6 wm wI wA;refine wp_region_noPanic ?_;refine wp_region_held_drew (S:=fun W'=>Below V6.drew.heap.size V6.drew W') (by kernel_rfl) (Below.refl _ _) (fun hHeld=>?_);refine tH (v:=?_) 0 43 rfl (Or.inl ⟨by rfl,?_⟩) ?_
 case refine_2 => exact z8
 try simp only [pS]
 refine tH (v:=?_) 2 45 rfl (Or.inl ⟨by rfl,?_⟩) ?_
 case refine_2 => exact z8
 try simp only [pS]
 refine tH (v:=?_) 3 46 rfl (Or.inl ⟨by rfl,?_⟩) ?_
 case refine_2 => exact z8
 try simp only [pS]
 refine rH 1 44 rfl fun K hK=>?_;go_simp;go_at_call 68;(with_reducible refine (HEn.out.deads _ (vm.kept_w hHeld)).mono ?_)
 rintro v x1 ⟨a1,c1,rfl,hd1,hb1⟩;go_simp;have hNext:=hHeld.trans (hb1.mono hHeld.size);refine hK.out _ _ hNext (fun aQ=>?_);clear hK K hHeld;have hHeld:=hNext;clear aQ hNext;try simp only [pS]
 refine rH 4 47 rfl fun K hK=>?_;go_simp;go_at_call 83;(with_reducible refine (HEn.out.sameD _ a1 c1 hd1 (vI.keep hHeld)).mono ?_)
 rintro v x2 ⟨rfl,hb2⟩;go_simp;have hNext:=hHeld.trans (hb2.mono hHeld.size);refine hK.out _ _ hNext (fun aQ=>?_);clear hK K hHeld;have hHeld:=hNext;clear aQ hNext;try simp only [pS]
 clear hd1 hb1 hb2;refine tH (v:=?_) 5 4 rfl (Or.inl ⟨by rfl,?_⟩) ?_
 case refine_2 => exact z8
 try simp only [pS]
 refine wpAnyH_done (by kernel_rfl) ?_ _;refine NoPanic.normal ?_;have HZ:=Lib.hid (HB6.out.trans (hHeld.mono HB6.out.size));clear hHeld vm vI vC0 vC1 vC2;go_wp2;go_ret;exact ⟨rfl,HZ.out⟩
theorem Uy {e0:Int} {r r':Rd} {ld:Int} (h:ckE e0 r r' ld=0):e0=0∧eX r=0∧eX r'=0∧ld=0:=by
 unfold ckE at h;split at h
 ·rename_i h1
  split at h
  ·rename_i h2
   split at h
   ·rename_i h3
    exact ⟨h1,h2,h3,h⟩
   ·rename_i h3;exact absurd h h3
  ·rename_i h2;exact absurd h h2
 ·rename_i h1;exact absurd h h1
abbrev Nc (d i:Int) (s:Stamp) (y:RMIt):List Value:=[.int .i64 d,.int .i64 i,.int .i64 s.wall,.int .i64 s.count,.int .i64 s.dev,.slice y.ac y.ctx.length y.cc,.slice y.aK y.K.length y.cK,.slice y.ad y.dead.length y.cd]
theorem SX (d i:Int) (s:Stamp) (y:RMIt) (w:World) (t:TypeId):(w.alloc (Obj.cells (rkA d i s y) t)).rangeAt w.heap.size 0 (Nc d i s y):=by
 intro j u hu;rw [Nat.zero_add,World.cell?_alloc_new];exact (by simpa using hu)
theorem QY {d i:Int} {s:Stamp} {y:RMIt} {w:World} {b:Nat} (h:w.rangeAt b 0 (Nc d i s y)):w.rangeAt b 2 (Js s):=fun j u hu=>by
 match j,hu with
 | 0,hu=>cases hu;exact h 2 _ rfl
 | 1,hu=>cases hu;exact h 3 _ rfl
 | 2,hu=>cases hu;exact h 4 _ rfl
theorem UM {d i:Int} {s:Stamp} {y:RMIt} {w:World} {b:Nat} (h:w.rangeAt b 0 (Nc d i s y)):w.rangeAt b 5 [.slice y.ac y.ctx.length y.cc,.slice y.aK y.K.length y.cK,.slice y.ad y.dead.length y.cd]:=fun j u hu=>by
 match j,hu with
 | 0,hu=>cases hu;exact h 5 _ rfl
 | 1,hu=>cases hu;exact h 6 _ rfl
 | 2,hu=>cases hu;exact h 7 _ rfl
theorem Qv (d i:Nat) (s:Stamp) {m:Nat} {b:MB} {t:MS} {y:RMIt} (w:World) (hm:MpIn w m b t) (hI:RMIn w y) (HIS:∀ X,MpIn X m b t→RMIn X y→Calls prog 35 #[.pointer (some ⟨m,0,none⟩),qV y] X fun e w'=>e=.returned (.bool true)∧Below X.heap.size X w') :
 Calls prog 8 #[snV d i s (.pointer (some ⟨m,0,none⟩)),.agg (rkA d i s y)] w fun e w'=>e=.returned (.bool true)∧Below w.heap.size w w':=by
 have hEq:=fun (W:World)=>FN W 9998 s s;rw [decide_eq_true (rfl:s=s)] at hEq;have hg:=qG;have q0:((d:Int) == (d:Int))=true:=beq_self_eq_true _;have q1:((i:Int) == (i:Int))=true:=beq_self_eq_true _;go_enter func8,ntmps8;go_upto_region 1 with fail
 refine au (fun W hW=>?_);have hbt:Below w.heap.size w W:=by rw [hW.out];go_grown
 have hR1:W.rangeAt w.heap.size 0 (tN d i s (.pointer (some ⟨m,0,none⟩))):=by rw [hW.out];exact aj (zH d i s (.pointer (some ⟨m,0,none⟩)) w _) ((Below.refl _ _).alloc (Nat.le_refl _) _)
 have hR2:W.rangeAt (w.heap.size+1) 0 (Nc d i s y):=by
  rw [hW.out];have:=SX d i s y (w.alloc (.cells (snA d i s (.pointer (some ⟨m,0,none⟩))) 28)) 38;rw [show (w.alloc (.cells (snA d i s (.pointer (some ⟨m,0,none⟩))) 28)).heap.size=w.heap.size+1 by simp] at this;exact this
 have a0:W.cell? ⟨w.heap.size,0,none⟩=some (.int .i64 d):=hR1 0 _ rfl;have a1:W.cell? ⟨w.heap.size,1,none⟩=some (.int .i64 i):=hR1 1 _ rfl;have a5:W.cell? ⟨w.heap.size,5,none⟩=some (.pointer (some ⟨m,0,none⟩)):=hR1 5 _ rfl;have b0:W.cell? ⟨w.heap.size+1,0,none⟩=some (.int .i64 d):=hR2 0 _ rfl;have b1:W.cell? ⟨w.heap.size+1,1,none⟩=some (.int .i64 i):=hR2 1 _ rfl;have s1:=zn hR1;have s2:=QY hR2;have s3:=UM hR2;have HI:=Lib.hid (HIS W (hm.kept_w hbt) (hI.keep hbt));clear hW hR1 hR2 hm hI HIS;go_wp2_with (first
  | ((with_reducible refine ah 25 _ w.heap.size 2 (Js s) (iO s) rfl _ underlying25 rfl (by kernel_rfl) s1 ?_ rfl ?_);exact rfl)
  | ((with_reducible refine ah 25 _ (w.heap.size+1) 2 (Js s) (iO s) rfl _ underlying25 rfl (by kernel_rfl) s2 ?_ rfl ?_);exact rfl)
  | ((with_reducible refine ah 36 _ (w.heap.size+1) 5 [.slice y.ac y.ctx.length y.cc,.slice y.aK y.K.length y.cK,.slice y.ad y.dead.length y.cd] (qV y) rfl _ underlying36 rfl (by kernel_rfl) s3 ?_ rfl ?_);exact rfl)
  | (go_at_call 35;(with_reducible refine HI.out.mono ?_);rintro e w1 ⟨rfl,hb1⟩))
 go_ret;exact ⟨rfl,below2 hbt hb1⟩
theorem NW (a:Option Addr) (cap:Nat) (l:Bytes) (w:World) (h:BytesIn w a l) (hl:l.length≤maxLen) (hcap:l.length≤cap) :
 Calls prog 3 #[.slice a l.length cap] w fun x w'=>x=.returned (.bool true)∧Below w.heap.size w w':=by
 unfold maxLen at hl;have HA:=Lib.hid IV;by_cases hlen:5000<l.length
 ·have d1:=decide_eq_true hlen
  have d2:decide ((5000:Int)<(l.length:Int))=true:=decide_eq_true (by omega);go_enter func3,ntmps3;go_wp2_with (go_at_call 4;(with_reducible refine (HA.out _).mono ?_);rintro x w2 ⟨rfl,hb2⟩)
  go_ret;exact ⟨rfl,hb2⟩
 ·have hl5:l.length≤5000:=by omega
  have d1:=decide_eq_false hlen;have d2:decide ((5000:Int)<(l.length:Int))=false:=decide_eq_false (by omega);obtain ⟨body,e0,h1⟩:∃ body e0,nV l=(body,e0):=⟨_,_,rfl⟩;obtain ⟨r,dev,inc,st,full,h2⟩:∃ r dev inc st full,ou body=(r,dev,inc,st,full):=⟨_,_,_,_,_,rfl⟩;obtain ⟨r',c,K,d,h3⟩:∃ r c K d,jL full=(r,c,K,d):=⟨_,_,_,_,rfl⟩;have HP0:=yI a cap l w (by omega) hcap h h1 h2 h3;have HR0:=fun (X:World) (hX:BytesIn X a l)=>ER a cap l X (by omega) hcap hX h1 h2 h3;obtain ⟨e,he⟩:∃ e,e=ckE e0 r r' (gu c K d):=⟨_,rfl⟩;rw [← he] at HP0 HR0;by_cases hz:e=0
  ·obtain ⟨rfl,hr,hr',hld⟩:=Uy (he.symm.trans hz)
   obtain ⟨hbody,Xc,WV,hst,hfl⟩:=IK h2 hr;obtain ⟨hfm,hc4,hd6⟩:=FV h3 hr';have hfr:=KA h1;have hbl:body.length≤5000:=by
        have:=congrArg List.length hfr;rw [Kz] at this;unfold LC at this;omega
   have HFM:=Lib.hid hfm;have HBD:=Lib.hid hbody;have HFR:=Lib.hid hfr;have HP:Hid (Calls prog 5 #[.slice a l.length cap] w fun x w'=>(∃ m b s,x=.returned (.tuple #[.agg (snA dev inc st (.pointer (some ⟨m,0,none⟩))),.int .i64 0])∧MpIn w' m b s∧MInv s∧Rel s ⟨c,K,d⟩∧s.dead.length≤d.length)∧Below w.heap.size w w'):=HP0.mono fun x w' h9=>by
        obtain ⟨_,g2,g3⟩:=h9;obtain ⟨m,b,s,f1,f2,f3,f4,f5,_⟩:=g2 hz;exact ⟨⟨m,b,s,f1,f2,f3,f4,f5⟩,g3⟩
   have HR:Hid (∀ X,BytesIn X a l→Calls prog 6 #[.slice a l.length cap] X fun x w'=>(∃ y,x=.returned (.tuple #[.agg (rkA dev inc st y),.int .i64 0])∧RMIn w' y∧y.rm=⟨c,K,d⟩)∧Below X.heap.size X w'):=fun X hX=>(HR0 X hX).mono fun x w' h9=>by
        obtain ⟨_,g2,g3⟩:=h9;obtain ⟨y,f1,f2,f3,_⟩:=g2 hz;exact ⟨⟨y,f1,f2,f3⟩,g3⟩
   clear HP0 HR0 he hz hfm hbody hfr hlen h1 h2 h3 hld hr hr';go_enter func3,ntmps3;go_upto_region 4 with (first
        | (go_at_call 5;(with_reducible refine HP.out.mono ?_);rintro x w1 ⟨⟨m,b,t,rfl,hm1,hti,htr,htd⟩,hb1⟩)
        | (refine aB 28 _ _ _ (snA dev inc st (.pointer (some ⟨m,0,none⟩))) rfl rfl (by kernel_rfl) rfl (by kernel_rfl) ?_))
   refine au (fun V1 hV=>?_);have hbv:Below w1.heap.size w1 V1:=by rw [hV.out];exact (Below.refl _ _).alloc (Nat.le_refl _) _
   have hR1:V1.rangeAt w1.heap.size 0 (tN dev inc st (.pointer (some ⟨m,0,none⟩))):=by rw [hV.out];exact zH _ _ _ _ _ _
   have hbt:=below2 hb1 hbv;have hB1:=BytesIn.kept h hbt;have hm:=hm1.kept_w hbv;clear hV hb1 hbv hm1 HP h;generalize w1.heap.size=X1 at *;go_upto_region 5 with (first
        | (go_at_call 6;(with_reducible refine (HR.out _ hB1).mono ?_);rintro x w2 ⟨⟨y,rfl,hI2,hyr⟩,hb2⟩)
        | (refine aB 38 _ _ _ (rkA dev inc st y) rfl rfl (by kernel_rfl) rfl (by kernel_rfl) ?_))
   refine au (fun V2 hV=>?_);have hbv:Below w2.heap.size w2 V2:=by rw [hV.out];exact (Below.refl _ _).alloc (Nat.le_refl _) _
   have hR2:V2.rangeAt w2.heap.size 0 (Nc dev inc st y):=by rw [hV.out];exact SX _ _ _ _ _ _
   have hI:=hI2.keep hbv;have hb3:=below2 hb2 hbv;replace hm:=hm.kept_w hb3;replace hB1:=BytesIn.kept hB1 hb3;replace hR1:=aj hR1 hb3;replace hbt:=below2 hbt hb3;clear hV hb2 hbv hb3 hI2 HR;generalize w2.heap.size=X2 at *;have hfb:nU t=full:=by
        rw [HFM.out,show c=t.ctx from htr.ctx,show K=dh t from htr.kept,show d=sortD t.dead from htr.dead,jI htr.nd];rfl
   have htc:t.ctx.length≤4096:=by rw [← show c=t.ctx from htr.ctx];exact hc4
   have HB0:=fun (X:World) (h:MpIn X m b t)=>yJ dev inc st X h hti htr.nd htc (by omega) (by rw [hfb];exact hfl) Xc WV hst (by rw [hfb,← HBD.out];omega);rw [hfb,← HBD.out,HFR.out] at HB0;have HB:=Lib.hid HB0;have HIS:=Lib.hid (fun (X:World) (hn:MpIn X m b t) (hI:RMIn X y)=>Qv dev inc st X hn hI (fun X hn hI=>Og (m:=m) (b:=b) (s:=t) (y:=y) (UY hti (by rw [hyr];exact htr) htc (by omega) (fun x hx=>uK (hti.kept x hx).1)) X hn hI));have HSF:=Lib.hid (fun (X:World) (p q:Option Addr) (c1 c2:Nat) (h1:BytesIn X p l) (h2:BytesIn X q l)=>zY p q c1 c2 l l X (by omega) (by omega) h1 h2);simp only [decide_true] at HSF;clear HB0 hfb htc HFM HBD HFR hti htr htd hyr;go_upto_region 8 with (first
        | ((with_reducible refine ah 28 _ X1 0 (tN dev inc st (.pointer (some ⟨m,0,none⟩))) (snV dev inc st (.pointer (some ⟨m,0,none⟩))) rfl _ underlying28 rfl (by kernel_rfl) hR1 ?_ rfl ?_);exact rfl)
        | (go_at_call 7;have h9:=HB.out _ hm;(with_reducible refine h9.mono ?_);rintro x w5 ⟨v5,rfl,hown5,hb5⟩;obtain ⟨a5,c5,rfl,FH⟩:=dJ hown5))
   have hm5:=hm.kept_w hb5;have hI5:=hI.keep hb5;have hB5:=BytesIn.kept hB1 hb5;have hR5:=aj hR1 hb5;have hS5:=aj hR2 hb5;have HB5:=Lib.hid (below2 hbt hb5);clear hm hI hB1 hR1 hR2 hb5 hbt HB hown5;go_wp2_with (first
        | ((with_reducible refine ah 28 _ X1 0 (tN dev inc st (.pointer (some ⟨m,0,none⟩))) (snV dev inc st (.pointer (some ⟨m,0,none⟩))) rfl _ underlying28 rfl (by kernel_rfl) hR5 ?_ rfl ?_);exact rfl)
        | ((with_reducible refine ah 38 _ X2 0 (Nc dev inc st y) (.agg (rkA dev inc st y)) rfl _ underlying38 rfl (by kernel_rfl) hS5 ?_ rfl ?_);exact rfl)
        | (go_at_call 8;have h9:=HIS.out _ hm5 hI5;(with_reducible refine h9.mono ?_);rintro x w6 ⟨rfl,hb6⟩;have Qd:=BytesIn.kept FH hb6;have hB6:=BytesIn.kept hB5 hb6)
        | (go_at_call 9;have h9:=HSF.out _ _ _ c5 cap Qd hB6;(with_reducible refine h9.mono ?_);rintro x w12 ⟨rfl,Xf⟩)
        | (go_at_call 4;(with_reducible refine (HA.out _).mono ?_);rintro x w14 ⟨rfl,Uh⟩))
   go_ret;exact ⟨rfl,below2 HB5.out (below2 hb6 (below2 Xf Uh))⟩
  ·have HP:Hid (Calls prog 5 #[.slice a l.length cap] w fun x w'=>x=.returned (.tuple #[.agg (snA 0 0 st0 (.pointer none)),.int .i64 e])∧Below w.heap.size w w'):=HP0.mono fun x w' h9=>⟨h9.1 hz,h9.2.2⟩
   have HR:Hid (∀ X,BytesIn X a l→Calls prog 6 #[.slice a l.length cap] X fun x w'=>x=.returned (.tuple #[.agg rkZ,.int .i64 e])∧Below X.heap.size X w'):=fun X hX=>(HR0 X hX).mono fun x w' h9=>⟨h9.1 hz,h9.2.2⟩;have q1:(e == 0)=false:=beq_eq_false_iff_ne.2 hz;have q2:(e != 0)=true:=by rw [bne_iff_ne];exact hz
   have q3:(e == e)=true:=beq_self_eq_true e;have hEq:=fun (W:World)=>FN W 9998 st0 st0;rw [decide_eq_true (rfl:st0=st0)] at hEq;have hg:=qG;clear HP0 HR0 he hz h1 h2 h3 hlen;go_enter func3,ntmps3;go_upto_region 4 with (first
        | (go_at_call 5;(with_reducible refine HP.out.mono ?_);rintro x w1 ⟨rfl,hb1⟩)
        | (refine aB 28 _ _ _ (snA 0 0 st0 (.pointer none)) rfl rfl (by kernel_rfl) rfl (by kernel_rfl) ?_))
   refine au (fun V1 hV=>?_);have hbv:Below w1.heap.size w1 V1:=by rw [hV.out];exact (Below.refl _ _).alloc (Nat.le_refl _) _
   have hR1:V1.rangeAt w1.heap.size 0 (tN 0 0 st0 (.pointer none)):=by rw [hV.out];exact zH _ _ _ _ _ _
   have hbt:=below2 hb1 hbv;have hB1:=BytesIn.kept h hbt;clear hV hb1 hbv HP h;generalize w1.heap.size=X1 at *;go_upto_region 6 with (first
        | (go_at_call 6;(with_reducible refine (HR.out _ hB1).mono ?_);rintro x w2 ⟨rfl,hb2⟩)
        | (refine aB 38 _ _ _ rkZ rfl rfl (by kernel_rfl) rfl (by kernel_rfl) ?_))
   refine au (fun V2 hV=>?_);have hbv:Below w2.heap.size w2 V2:=by rw [hV.out];exact (Below.refl _ _).alloc (Nat.le_refl _) _
   have hb3:=below2 hb2 hbv;have hR3:=aj hR1 hb3;have hB3:=below2 hbt hb3;have r0:V2.cell? ⟨X1,0,none⟩=some (.int .i64 0):=hR3 0 _ rfl;have r1:V2.cell? ⟨X1,1,none⟩=some (.int .i64 0):=hR3 1 _ rfl;have r5:V2.cell? ⟨X1,5,none⟩=some (.pointer none):=hR3 5 _ rfl;have s3:=zn hR3;clear hV hb2 hbv hb3 hR1 hR3 hbt hB1 HR;go_wp2_with (first
        | ((with_reducible refine ah 25 _ X1 2 (Js st0) (iO st0) rfl _ underlying25 rfl (by kernel_rfl) s3 ?_ rfl ?_);exact rfl)
        | (go_at_call 4;(with_reducible refine (HA.out _).mono ?_);rintro x w14 ⟨rfl,Uh⟩))
   go_ret;exact ⟨rfl,below2 hB3 Uh⟩
end Go.Proofs.YtepkclldbkhanaaGreat
