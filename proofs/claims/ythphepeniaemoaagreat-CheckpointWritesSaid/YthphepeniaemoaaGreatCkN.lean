/- The reference's Write of a snapshot's bytes. Conditions: as in the text. -/
import Derived.Test.YthphepeniaemoaaGreatCkV
import Derived.Test.YthphepeniaemoaaGreatDAwake
import Derived.Test.YthphepeniaemoaaGreatCkG
set_option linter.unusedSimpArgs false
set_option linter.unusedVariables false
set_option linter.unnecessarySimpa false
set_option maxHeartbeats 16000000
set_option maxRecDepth 100000
open Go.Proofs.Tryz
namespace Go.Proofs.YthphepeniaemoaaGreat
open Go.RowKit
theorem DInv.eq_of {T:DS} {l:List RF} (hl:bJ l=T.f):(⟨bJ l,T.arm,T.down⟩:DS)=T:=by rw [hl]
theorem DInv.few {T:DS} (hi:DInv T) {l:List RF} (hl:bJ l=T.f):l.length<=8:=by have:=congrArg List.length hl;rw [List.length_map] at this;have:=hi.len;omega
theorem Su {S S1:DS} {e1:Int} (l:Bytes) (h:S.remove dH=(S1,e1)) (h0:¬ e1=0) (h10:¬ e1=10):layS S l=(S1,e1):=by
 have h2:rmS S=(S1,e1):=by unfold rmS;rw [h];simp only;rw [if_neg h10]
 unfold layS;rw [h2,nU h0,nU h0,nU h0]
theorem Sv {S S1:DS} {e1:Int} (l:Bytes) (h:S.remove dH=(S1,e1)) (h0:e1=0\/e1=10):layS S l=thenS (fun S=>S.rename dH kF) (thenS (fun S=>S.sync dH) (S1.append dH l)):=by
 have h2:rmS S=(S1,0):=by
  unfold rmS;rw [h];simp only;rcases h0 with h0 | h0
  ·rw [if_neg (by omega),h0]
  ·rw [if_pos h0]
 unfold layS;rw [h2];rfl
variable {S:DS}
theorem FD (a ab:Option Addr) (cap cb:Nat) (l:List RF) (bs:Bytes) (w:World) (hi:DInv S) (hlc:l.length<=cap) (hl:bJ l=S.f) (h:RFsIn w a l) (hbs:BytesIn w ab bs) (hbl:bs.length<=1048600) :
 Calls prog 13 #[je a l.length cap S.arm S.down,.slice ab bs.length cb] w (uX (layS S bs).1 (layS S bs).2 w):=by
 have HRm:∀ (T:DS),DInv T->∀ (X:World) (a:Option Addr) (l:List RF) (cap:Nat),bJ l=T.f->l.length<=cap->RFsIn X a l->Calls prog 34 #[je a l.length cap T.arm T.down,.string dH] X (uX (T.remove dH).1 (T.remove dH).2 X):=fun T hi X a l cap hl hc h=>by
  have:=Dv a cap T.arm T.down l dH X (by have:=hi.few hl;omega) hc hi.arm (by decide) h;rwa [DInv.eq_of hl] at this
 have HAp:∀ (T:DS),DInv T->∀ (X:World) (a:Option Addr) (l:List RF) (cap:Nat),bJ l=T.f->l.length<=cap->RFsIn X a l->BytesIn X ab bs->Calls prog 35 #[je a l.length cap T.arm T.down,.string dH,.slice ab bs.length cb] X (uX (T.append dH bs).1 (T.append dH bs).2 X):=fun T hi X a l cap hl hc h hb=>by
  have:=Hr a ab cap cb T.arm T.down l dH bs X (by have:=hi.few hl;omega) hc hi.arm (by decide) (fun f hf=>(hi.ok f (by rw [<- hl];exact lY hf)).len) (by omega) h hb;rwa [DInv.eq_of hl] at this
 have HSy:∀ (T:DS),DInv T->∀ (X:World) (a:Option Addr) (l:List RF) (cap:Nat),bJ l=T.f->l.length<=cap->RFsIn X a l->Calls prog 36 #[je a l.length cap T.arm T.down,.string dH] X (uX (T.sync dH).1 (T.sync dH).2 X):=fun T hi X a l cap hl hc h=>by
  have:=NF a cap T.arm T.down l dH X (by have:=hi.few hl;omega) hc hi.arm (by decide) h;rwa [DInv.eq_of hl,RV hi.srt] at this
 have HRn:∀ (T:DS),DInv T->∀ (X:World) (a:Option Addr) (l:List RF) (cap:Nat),bJ l=T.f->l.length<=cap->RFsIn X a l->Calls prog 37 #[je a l.length cap T.arm T.down,.string dH,.string kF] X (uX (T.rename dH kF).1 (T.rename dH kF).2 X):=fun T hi X a l cap hl hc h=>by
  have:=Du a cap T.arm T.down l dH kF X (by have:=hi.few hl;omega) hc hi.arm (by decide) (by decide) h;rwa [DInv.eq_of hl] at this
 obtain ⟨S1,e1,hS1⟩:∃ S1 e1,S.remove dH=(S1,e1):=⟨_,_,rfl⟩;have hi1:DInv S1:=by have:=hi.remove dH;rwa [hS1] at this
 have H1:=fun X (h:RFsIn X a l)=>HRm S hi X a l cap hl hlc h;rw [hS1] at H1;replace H1:=aq H1;have HI1:=aq hi1;have HLY:=aq (ba (fun h0 h10=>Su bs hS1 h0 h10) (fun h0=>Sv bs hS1 h0));replace HAp:=aq HAp;replace HSy:=aq HSy;replace HRn:=aq HRn;clear HRm hi hi1 hS1 hl;generalize layS S bs=RR at *;go_enter func13,ntmps13;go_upto_region 1 with fail
 refine aI (fun W hW=>?_);have hbt:Below w.heap.size w W:=by rw [hW.out];go_grown
 have hX0:B3 W w.heap.size 29 (.slice a l.length cap) (.int .i64 S.arm) (.bool S.down):=by rw [hW.out];exact (((bh _ _).alloc (ar _) _).block _ (by simp)).trans (aY _ _)
 have hZ:B3 W (w.heap.size+1) 29 (.slice none 0 0) (.int .i64 0) (.bool false):=by rw [hW.out];exact eY _ _ _
 have h0:=h.kept hbt;replace hbs:=hbs.kept hbt;clear hW h;obtain ⟨d0,d1,d2,d3,d4,d5⟩:=hX0.cells;go_upto_region 2 with (go_at_call 34;(with_reducible refine (H1.out _ h0).mono ?_);rintro x w1 ⟨a1,l1,c1,rfl,hin1,hc1,hl1,hb1⟩)
 refine aI (fun V1 hV=>?_);have hX1:B3 V1 w1.heap.size 29 (.slice a1 l1.length c1) (.int .i64 S1.arm) (.bool S1.down):=by rw [hV.out];exact aY w1 _
 have hbv:Below w1.heap.size w1 V1:=by rw [hV.out];exact (bh _ _).alloc (ar _) _
 have hbn:=below2 hb1 hbv;have hI1:=hin1.kept hbv;replace hZ:=hZ.below hbn;replace hbs:=hbs.kept hbn;replace hbt:=below2 hbt hbn;have HL1:=aq hl1;clear hV hb1 hbv hbn hin1 hl1 d0 d1 d2 d3 d4 d5;obtain ⟨d0,d1,d2,d3,d4,d5⟩:=hX1.cells;clear hX0 h0 H1;by_cases h0:e1=0\/e1=10
 case neg =>
  have g0:¬ e1=0:=fun h=>h0 (bb h);have g1:¬ e1=10:=fun h=>h0 (bd h);have HRR:=aq (HLY.out.1 g0 g1);have q0:(e1 != 0)=true:=by rw [bne_iff_ne];exact g0
  have q1:(e1 != 10)=true:=by rw [bne_iff_ne];exact g1
  clear g0 g1 h0 HLY HAp HSy HRn HI1;go_wp2_with (refine wpList_store_row rfl 29 _ _ rfl (w.heap.size+1) #[.slice a1 l1.length c1,.int .i64 S1.arm,.bool S1.down] rfl rfl 29 _ hZ (by kernel_rfl) rfl (by kernel_rfl) ?_)
  refine y34 ?_
  obtain rfl:=HRR.out;exact ⟨a1,l1,c1,rfl,hI1.fr (T:=isR (w.heap.size+1)) (lC _ _ _) (fun k hk=>by subst hk;exact ⟨hZ.noByte ⟨trivial,trivial,trivial⟩,hZ.noStr ⟨trivial,trivial,trivial⟩⟩),hc1,HL1.out,dG hbt (Nat.le_succ _) _⟩
 case pos =>
 have HQ:=HLY.out.2 h0;obtain ⟨S2,e2,hS2⟩:∃ S2 e2,S1.append dH bs=(S2,e2):=⟨_,_,rfl⟩;have hi2:DInv S2:=by have:=HI1.out.append dH bs;rwa [hS2] at this
 have H2:=fun X (h:RFsIn X a1 l1) (hb:BytesIn X ab bs)=>HAp.out S1 HI1.out X a1 l1 c1 HL1.out hc1 h hb;rw [hS2] at H2 HQ;replace HQ:=aq HQ;replace H2:=aq H2;have HI2:=aq hi2;have Vg:=aq (fun X a l cap (hl:bJ l=S2.f) (hc:l.length<=cap) (h:RFsIn X a l)=>HSy.out S2 HI2.out X a l cap hl hc h);have q0:(e1 != 0)=true/\(e1 != 10)=false\/(e1 != 0)=false:=by
  rcases h0 with rfl | rfl
  ·exact bd rfl
  ·exact bb ⟨rfl,rfl⟩
 clear HLY hi2 HSy HAp hS2 h0 HI1;rcases q0 with ⟨q0,q1⟩ | q0;all_goals
  go_upto_region 5 with (go_at_call 35;(with_reducible refine (H2.out _ hI1 hbs).mono ?_);rintro x w2 ⟨a2,l2,c2,rfl,hin2,hc2,hl2,hb2⟩)
  refine aI (fun V2 hV=>?_);have hX2:B3 V2 w2.heap.size 29 (.slice a2 l2.length c2) (.int .i64 S2.arm) (.bool S2.down):=by rw [hV.out];exact aY w2 _
  have hbv:Below w2.heap.size w2 V2:=by rw [hV.out];exact (bh _ _).alloc (ar _) _
  have hbn:=below2 hb2 hbv;have hI2:=hin2.kept hbv;replace hZ:=hZ.below hbn;replace hbs:=hbs.kept hbn;replace hbt:=below2 hbt hbn;have HL2:=aq hl2;clear hV hb2 hbv hbn hin2 hl2 d0 d1 d2 d3 d4 d5;obtain ⟨d0,d1,d2,d3,d4,d5⟩:=hX2.cells;clear hX1 hI1 H2;by_cases h2:e2=0
  case neg =>
   have HRR:Hid (RR=(S2,e2)):=by unfold Hid;rw [HQ.out,nU h2,nU h2]
   clear HQ;have q2:(e2 != 0)=true:=by rw [bne_iff_ne];exact h2
   clear h2 Vg HRn HI2;go_wp2_with (refine wpList_store_row rfl 29 _ _ rfl (w.heap.size+1) #[.slice a2 l2.length c2,.int .i64 S2.arm,.bool S2.down] rfl rfl 29 _ hZ (by kernel_rfl) rfl (by kernel_rfl) ?_)
   refine y34 ?_
   obtain rfl:=HRR.out;exact ⟨a2,l2,c2,rfl,hI2.fr (T:=isR (w.heap.size+1)) (lC _ _ _) (fun k hk=>by subst hk;exact ⟨hZ.noByte ⟨trivial,trivial,trivial⟩,hZ.noStr ⟨trivial,trivial,trivial⟩⟩),hc2,HL2.out,dG hbt (Nat.le_succ _) _⟩
  case pos =>
  subst h2;obtain ⟨S3,e3,hS3⟩:∃ S3 e3,S2.sync dH=(S3,e3):=⟨_,_,rfl⟩;have hth:thenS (fun S=>S.sync dH) (S2,0)=(S3,e3):=hS3;have HQ3:=HQ.out;rw [hth] at HQ3;replace HQ3:=aq HQ3;clear HQ;have hi3:DInv S3:=by have:=HI2.out.sync dH;rwa [hS3] at this
  have H3:=fun X (h:RFsIn X a2 l2)=>Vg.out X a2 l2 c2 HL2.out hc2 h;rw [hS3] at H3;replace H3:=aq H3;have Vh:=aq (fun X a l cap (hl:bJ l=S3.f) (hc:l.length<=cap) (h:RFsIn X a l)=>HRn.out S3 hi3 X a l cap hl hc h);clear hth hS3 Vg HI2 hi3 HRn;go_upto_region 8 with (go_at_call 36;(with_reducible refine (H3.out _ hI2).mono ?_);rintro x w3 ⟨a3,l3,c3,rfl,oD,hc3,hl3,hb3⟩)
  refine aI (fun V3 hV=>?_);have hX3:B3 V3 w3.heap.size 29 (.slice a3 l3.length c3) (.int .i64 S3.arm) (.bool S3.down):=by rw [hV.out];exact aY w3 _
  have hbv:Below w3.heap.size w3 V3:=by rw [hV.out];exact (bh _ _).alloc (ar _) _
  have hbn:=below2 hb3 hbv;have hI3:=oD.kept hbv;replace hZ:=hZ.below hbn;replace hbs:=hbs.kept hbn;replace hbt:=below2 hbt hbn;have HL3:=aq hl3;clear hV hb3 hbv hbn oD hl3 d0 d1 d2 d3 d4 d5;obtain ⟨d0,d1,d2,d3,d4,d5⟩:=hX3.cells;clear hX2 hI2 H3;by_cases h3:e3=0
  case neg =>
   have HRR:Hid (RR=(S3,e3)):=by unfold Hid;rw [HQ3.out,nU h3]
   clear HQ3;have q3:(e3 != 0)=true:=by rw [bne_iff_ne];exact h3
   clear h3 Vh;go_wp2_with (refine wpList_store_row rfl 29 _ _ rfl (w.heap.size+1) #[.slice a3 l3.length c3,.int .i64 S3.arm,.bool S3.down] rfl rfl 29 _ hZ (by kernel_rfl) rfl (by kernel_rfl) ?_)
   refine y34 ?_
   obtain rfl:=HRR.out;exact ⟨a3,l3,c3,rfl,hI3.fr (T:=isR (w.heap.size+1)) (lC _ _ _) (fun k hk=>by subst hk;exact ⟨hZ.noByte ⟨trivial,trivial,trivial⟩,hZ.noStr ⟨trivial,trivial,trivial⟩⟩),hc3,HL3.out,dG hbt (Nat.le_succ _) _⟩
  case pos =>
  subst h3;obtain ⟨S4,e4,hS4⟩:∃ S4 e4,S3.rename dH kF=(S4,e4):=⟨_,_,rfl⟩;have hth:thenS (fun S=>S.rename dH kF) (S3,0)=(S4,e4):=hS4;have HRR:=HQ3.out;rw [hth] at HRR;replace HRR:=aq HRR;clear HQ3;have H4:=Vh.out _ a3 l3 c3 HL3.out hc3 hI3;rw [hS4] at H4;replace H4:=aq H4;clear hth hS4 Vh;go_wp2_with (first
   | (go_at_call 37;(with_reducible refine H4.out.mono ?_);rintro x w4 ⟨a4,l4,c4,rfl,oC,hc4,hl4,hb4⟩;have hZ4:=hZ.below hb4)
   | (refine wpList_store_row rfl 29 _ _ rfl (w.heap.size+1) #[.slice a4 l4.length c4,.int .i64 S4.arm,.bool S4.down] rfl rfl 29 _ hZ4 (by kernel_rfl) rfl (by kernel_rfl) ?_))
  refine og 4 5 29 29 (w.heap.size+1) _ _ _ rfl rfl rfl (hZ4.row _ _ _) underlying29 rfl (by kernel_rfl) rfl ?_;obtain rfl:=HRR.out;exact ⟨a4,l4,c4,rfl,oC.fr (T:=isR (w.heap.size+1)) (lC _ _ _) (fun k hk=>by subst hk;exact ⟨hZ4.noByte ⟨trivial,trivial,trivial⟩,hZ4.noStr ⟨trivial,trivial,trivial⟩⟩),hc4,hl4,dG (below2 hbt hb4) (Nat.le_succ _) _⟩
theorem DZ (p:Nat) (d i:Int) (st:Stamp) (m:Nat) (w:World) (h:sF d i st=false) :
 Calls prog 11 #[.pointer (some ⟨p,0,none⟩),snV d i st (.pointer (some ⟨m,0,none⟩))] w fun e w'=>e=.returned (.int .i64 4)/\Below w.heap.size w w':=by
 have HB:=aq (fun (X:World)=>D7 d i st m X h);clear h;go_enter func11,ntmps11;go_upto_region 1 with fail
 refine aI (fun W hW=>?_);have hbt:Below w.heap.size w W:=by rw [hW.out];go_grown
 have c0:W.cell? ⟨w.heap.size,0,none⟩=some (.pointer (some ⟨p,0,none⟩)):=by rw [hW.out];go_simp
 have hR:W.rangeAt (w.heap.size+1) 0 (lU d i st (.pointer (some ⟨m,0,none⟩))):=by
  rw [hW.out];have:=uK d i st (.pointer (some ⟨m,0,none⟩)) (w.alloc (.cells #[.pointer (some ⟨p,0,none⟩)] 25)) 42;rw [show (w.alloc (.cells #[.pointer (some ⟨p,0,none⟩)] 25)).heap.size=w.heap.size+1 by simp] at this;exact this
 clear hW;go_upto_region 4 with (first
  | ((with_reducible refine bT 42 _ (w.heap.size+1) 0 (lU d i st (.pointer (some ⟨m,0,none⟩))) (snV d i st (.pointer (some ⟨m,0,none⟩))) rfl _ underlying42 rfl (by kernel_rfl) hR ?_ rfl ?_);exact rfl)
  | (go_at_call 24;(with_reducible refine (HB.out _).mono ?_);rintro x w1 ⟨rfl,hb1⟩))
 go_wp2;go_ret;exact ⟨rfl,below2 hbt (hb1.alloc hb1.size _ |>.alloc (by simp;exact Nat.le_succ_of_le hb1.size) _)⟩
theorem Jb (v:Value) (w:World) (hv:∃ c,v=.agg c/\c.size=6) :
 Calls prog 11 #[.pointer none,v] w fun e w'=>e=.returned (.int .i64 17)/\Below w.heap.size w w':=by
 obtain ⟨c,rfl,hc⟩:=hv;go_enter func11,ntmps11;go_wp2;go_ret;exact ⟨rfl,by go_grown⟩
end Go.Proofs.YthphepeniaemoaaGreat
