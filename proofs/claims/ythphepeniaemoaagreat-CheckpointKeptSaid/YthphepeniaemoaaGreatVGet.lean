/- Frames, plainly: what they are, how they are scanned, cut off anywhere; the reference's frame. Conditions: a body of at most 2^20 bytes. -/
import Derived.Test.YthphepeniaemoaaGreatCrc
import Derived.Test.YthphepeniaemoaaGreatMkB
import Derived.Test.YthphepeniaemoaaGreatReadK
import Derived.Test.YthphepeniaemoaaGreatRefPut
import Derived.Test.YthphepeniaemoaaGreatDec
import Derived.Test.YthphepeniaemoaaGreatMark
import Derived.Test.YthphepeniaemoaaGreatClone
import Derived.Great.BuildSlice
set_option linter.unusedSimpArgs false
set_option linter.unusedVariables false
set_option linter.unnecessarySimpa false
set_option maxHeartbeats 16000000
set_option maxRecDepth 100000
open Go.Proofs.Tryz
namespace Go.Proofs.YthphepeniaemoaaGreat
open Go.RowKit
theorem H9 {w:World} {base:Nat} {a:Option Addr} {n cap:Nat} {xs:List Value} (h:w.ownsRow base 5 1 (.slice a n cap) n xs):n<=cap:=by
 rcases h.2 with ⟨h0,hn⟩ | ⟨g,c,cur,he,_,_,hc,_⟩
 ·omega
 ·cases he;exact hc
theorem Ov (n:Nat) (h:n<4294967296):jP (le4 n)=n:=by
 have e:∀ k,(UInt8.ofNat (k % 256)).toNat=k % 256:=fun k=>by rw [UInt8.toNat_ofNat'];omega
 unfold le4 jP jP jP jP jP;rw [e,e,e,e];omega
theorem lF (b:Bytes):(dJ b).length=GZ b.length:=by
 unfold dJ GZ le4;simp;omega
theorem IR (b s:Bytes) (hb:b.length<=1048576):iT (dJ b++s)=(b,GZ b.length,0):=by
 have e:dJ b++s=aU b.length++(b++(le4 (kC b)++s)):=by unfold dJ;simp
 have hg:dn (dJ b++s)=(b.length,(aU b.length).length,0):=by rw [e];exact uO _ _ (by omega)
 have hl:(dJ b++s).length=(aU b.length).length+(b.length+(4+s.length)):=by rw [e];simp [le4];omega
 have hd:(dJ b++s).drop (aU b.length).length=b++(le4 (kC b)++s):=by rw [e];simp
 have hd2:(dJ b++s).drop ((aU b.length).length+b.length)=le4 (kC b)++s:=by rw [<- List.drop_drop,hd];simp
 unfold iT;rw [hg];simp only;rw [if_pos trivial,if_neg (by omega),if_neg (by omega),hd2,hd,List.take_left' (by rfl),List.take_left' (by rfl),if_pos (Ov _ (tY b))];rfl
theorem qX {n:Nat} (h:n<=1048576):GZ n<=1048590:=by
 have:=aW n (by omega);unfold GZ;omega
/-- marks, read -/
def kH (y:Rd×List Dot):Rd×List Dot:=if y.1.e=0 then (if aZ y.2=0 then y else (iF y.1 (aZ y.2),[])) else (y.1,[])
def jZ (r:Rd):Rd×List Dot:=kH (dM (bQ 4096 r).2 (bQ 4096 r).1)
theorem J9 (r:Rd):(jZ r).1.b.length<=r.b.length:=by
 have h1:=(di 4096 r).1;have h2:=xR (bQ 4096 r).2 (bQ 4096 r).1;unfold jZ kH;split
 ·split
  ·omega
  ·unfold iF;split <;> simp only <;> omega
 ·simp only;omega
def Jw (R:Nat) (y:Rd×List Dot) (w:World) (x:Ending) (w':World):Prop :=
 ∃ a cap,x=.returned (.slice a y.2.length cap)/\DotsIn w' a y.2/\RdAt w' R y.1/\Fr (isR R) w w'/\(∀ A off,a=some ⟨A,off,none⟩->w.heap.size<=A)
theorem Tryz.infoMark:(prog.info? 202).map (fun i=>(i.zero,i.size,i.bytes))=some (some (.agg #[.int .i64 0,.int .i64 0,.int .i64 0]),3,24):=by kernel_rfl
theorem CY {w:World} {base:Nat} {t:TypeId} {v:Value} {l:List Dot} (h:w.ownsRow base t 3 v l.length (aI l)):∃ a cap,v=.slice a l.length cap/\DotsIn w a l/\(∀ A off,a=some ⟨A,off,none⟩->base<=A):=by
 rcases h.2 with ⟨rfl,hn⟩ | ⟨g,cap,cur,rfl,hb,rest⟩
 ·exact ⟨none,0,by rw [hn],a8 (List.length_eq_zero_iff.1 hn),fun _ _ h=>by cases h⟩
 ·refine ⟨some ⟨g,0,none⟩,cap,rfl,ba ⟨g,0,rfl,?_⟩,fun A off e=>by cases e;exact hb⟩
  have hc:=World.ownsRow.cells (g:=g) h rfl;have key:∀ j u,(aI l)[j]?=some u->w.cell? ⟨g,j,none⟩=some u:=fun j u hu=>by
   have:=hc j u hu;rwa [Addr.add_mid,av] at this
  refine ⟨fun i hi=>?_,fun i hi=>?_,fun i hi=>?_⟩
  ·have:=key _ _ (gW l i hi).1;simpa using this
  ·have:=key _ _ (gW l i hi).2.1;simpa using this
  ·have:=key _ _ (gW l i hi).2.2;simpa using this
theorem uz (l:List Dot) (d:Dot):aI l++[.int .i64 d.a.dev,.int .i64 d.a.inc,.int .i64 d.seq]=aI (l++[d]):=by simp [aI]
theorem z104 {p : Prop} (h : p := by
 go_wp2_with (go_at_call 134; (with_reducible refine (HE.out _ hRd).mono ?_); rintro v w2 ⟨rfl, rfl⟩)
 go_ret
 rw [HQ3.out]
 exact ⟨none, 0, rfl, a8 rfl, hRd, hFF, fun A off h => by cases h⟩) : p := h
theorem y32 {p q : Prop} (k : q) (h : PLift q -> p := by
 intro kk
 have hdi : decide ((0 : Int) < ((j : Nat) : Int) + 1) = true := aR (by omega)
 have hwr : IntKind.u64.wrap (((j : Nat) : Int) + 1 - 1) = ((j : Nat) : Int) := by rw [show ((j : Nat) : Int) + 1 - 1 = j by omega]; exact IntWalk.u64_in _ (by omega)
 revert hdi hwr
 exact kk.down) : p := h ⟨k⟩
theorem PY (R:Nat) (r:Rd) (w:World) (hl:r.b.length<=1073741824) (h:RdAt w R r) :
 Calls prog 135 #[.pointer (some ⟨R,0,none⟩)] w (Jw R (jZ r) w):=by
 obtain ⟨i0,hi,hz0,hz1,hz2⟩:=info_parts Tryz.infoMark;have hfit:=di 4096 r;have HN0:=oz R r 4096 w hl (by omega) h;have HV:Hid (jZ r=kH (dM (bQ 4096 r).2 (bQ 4096 r).1)):=rfl;obtain ⟨x,N,hx⟩:∃ x N,bQ 4096 r=(x,N):=⟨_,_,rfl⟩;rw [hx] at hfit HN0 HV;simp only at hfit HN0 HV;obtain ⟨hxl,hN⟩:=hfit;have HN:Hid (Calls prog 89 #[.pointer (some ⟨R,0,none⟩),.int .u64 4096] w (iw R x (.int .u64 N) w)):=HN0;have HEr:=aa (fun (rr:Rd) (W:World) (h:RdAt W R rr)=>Fb R rr W h);have HDg:=aa (fun (rr:Rd) (W:World) (hl:rr.b.length<=1073741824) (h:RdAt W R rr)=>xn R rr W hl h);have hR:=h.lt;clear hx HN0 h;go_enter func135,ntmps135;go_upto_region 3 with (go_at_call 89;(with_reducible refine HN.out.mono ?_);rintro v W ⟨rfl,hRx,hFx⟩)
 have hzW:=hFx.size;clear HN;go_wp2;go_loopw [3,4] (fun out n wr=>∃ (m:Nat) (rr:Rd) (ls:List Dot),n=.int .u64 m/\m+ls.length<=4096/\rr.b.length<=1073741824/\wr.ownsRow W.heap.size 202 3 out ls.length (aI ls)/\RdAt wr R rr/\Fr (isR R) W wr/\dM N x=((dM m rr).1,ls++(dM m rr).2)) (fun _ n _=>(intOf n).toNat)
 case atStart=>exact ⟨N,x,[],rfl,by simp;omega,by omega,World.ownsRow_nil _ _ _ _,hRx,Fr.refl _ _,by simp⟩
 case round =>
  obtain ⟨m,rr,ls,rfl,hmn,hrl,hown,hRd,hF,hpre⟩:=hrel;have HP:=aa hpre;clear hpre;have hzw:=hF.size;by_cases hgo:0<m/\rr.e=0
  ·obtain ⟨hm0,he0⟩:=hgo
   obtain ⟨j,rfl⟩:∃ j,m=j+1:=⟨m - 1,by omega⟩;have hq:(rr.e == 0)=true:=beq_iff_eq.2 he0;have hdm:decide (0<j+1)=true:=by simp
   refine y32 ?_
   intro hdi hwr
   have hf:=pq rr;have HS:Hid (dM N x=((dM j (iQ rr).1).1,(ls++[(iQ rr).2])++(dM j (iQ rr).1).2)):=by rw [Hid,HP.out,A7 he0];simp
   have HG0:=HDg.out rr;obtain ⟨r2,d,hrd⟩:∃ r2 d,iQ rr=(r2,d):=⟨_,_,rfl⟩;rw [hrd] at HG0 HS hf;simp only at HG0 HS hf;have HG:=aa (fun (X:World) (h:RdAt X R rr)=>HG0 X hrl h);have HE:=aa (fun (X:World) (h:RdAt X R rr)=>HEr.out rr X h);clear hrd HG0 HP he0 hm0;go_upto_region 6 with (first
        | (go_at_call 134;(with_reducible refine (HE.out _ hRd).mono ?_);rintro v w2 ⟨rfl,rfl⟩)
        | (go_at_call 137;(with_reducible refine (HG.out _ hRd).mono ?_);rintro v wd ⟨rfl,hR2,hF2⟩))
   refine aN (fun W1 hW1=>?_);have hb1:Below wd.heap.size wd W1:=by rw [hW1.out];go_grown
   have x0:W1.cell? ⟨wd.heap.size,0,none⟩=some (.int .i64 d.a.dev):=by rw [hW1.out];go_simp
   have x1:W1.cell? ⟨wd.heap.size,1,none⟩=some (.int .i64 d.a.inc):=by rw [hW1.out];go_simp
   have x2:W1.cell? ⟨wd.heap.size,2,none⟩=some (.int .i64 d.seq):=by rw [hW1.out];go_simp
   have hown1:=ownsRow_below (Bh hown hF2 (by omega)) hb1;have hR3:=hR2.below hb1;have hF3:=(hF.again hF2).again (Fr.of_below hb1);have Yi:=hF3.size;clear hW1 hb1 hown hR2 hF2 hRd hF HE HG;go_wp2_with (at_builtin;go_loud (refine wpList_append_own _ rfl _ _ 43 rfl W.heap.size 202 i0 (.agg #[.int .i64 0,.int .i64 0,.int .i64 0]) 3 24 underlying43 hi hz0 hz1 hz2 rfl (by decide) _ _ _ rfl (hown1.alloc _) ⟨W1.heap.size,0,none⟩ 1 1 [.int .i64 d.a.dev,.int .i64 d.a.inc,.int .i64 d.seq] rfl rfl (UD W1 d _) (by simp [Value.oneCell']) (by unfold maxLen;omega) (by omega) (by simp;omega) ?_))
   intro v' w5 hown5 hg5 _;rw [uz] at hown5;have hR5:=(hR3.below ((bb _ _).alloc (aq _) _)).grown hg5 (fun g hg=>by have:=(hown1.lt g hg).1;omega);have hF5:=(hF3.alloc (Obj.cells #[.int .i64 d.a.dev,.int .i64 d.a.inc,.int .i64 d.seq] 202)).grown hg5 (fun g hg=>(hown1.lt g hg).1);go_wp2;go_roundw
   case rel=>exact ⟨j,r2,ls++[d],by go_num,by simp;omega,by omega,by rw [ar];exact hown5,hR5,hF5,HS.out⟩
   case measure=>simp [intOf]
  ·have hend:dM m rr=(rr,[]):=by
        by_cases h0:m=0
        ·subst h0;rfl
        ·exact Es (fun e=>hgo ⟨by omega,e⟩)
   have HQ:Hid (jZ r=kH (rr,ls)):=by rw [Hid,HV.out,HP.out,hend];simp
   have HE:=aa (fun (X:World) (h:RdAt X R rr)=>HEr.out rr X h);have hlen:ls.length<=4096:=by omega
   obtain ⟨ao,co,hvo,hdo,hao⟩:=CY hown;have HVO:=aa hvo;have hFF:=hFx.again hF;by_cases he:rr.e=0
   ·have hm0:m=0:=by
     by_cases h0:m=0
     ·exact h0
     ·exact absurd ⟨by omega,he⟩ hgo
    subst hm0;have q1:(rr.e == 0)=true:=beq_iff_eq.2 he;have q2:(rr.e != 0)=false:=by rw [bne_eq_false_iff_eq];exact he
    have HQ2:Hid (jZ r=if aZ ls=0 then (rr,ls) else (iF rr (aZ ls),[])):=by rw [Hid,HQ.out];unfold kH;simp only;rw [if_pos he]
    have PS:=fun (X:World) (c:Nat) (h:DotsIn X ao ls)=>mY ao c ls X (by omega) h;by_cases hme:aZ ls=0
    ·have HQ3:Hid (jZ r=(rr,ls)):=by rw [Hid,HQ2.out,if_pos hme]
     rw [hme] at PS;have HCK:=aa PS;clear HQ HQ2 PS hme hend hgo he hvo hrl HP HV;rw [HVO.out];go_wp2_with (first
      | (go_at_call 134;(with_reducible refine (HE.out _ hRd).mono ?_);rintro v w2 ⟨rfl,rfl⟩)
      | (go_at_call 175;(with_reducible refine (HCK.out _ _ hdo).mono ?_);rintro v w3 ⟨rfl,hb3⟩;replace hRd:=hRd.below hb3;replace hFF:=hFF.again (Fr.of_below hb3);replace hdo:=hdo.kept hb3))
     go_ret;rw [HQ3.out];exact ⟨ao,co,rfl,hdo,hRd,hFF,fun A off h=>Nat.le_trans hzW (hao A off h)⟩
    ·have HQ3:Hid (jZ r=(iF rr (aZ ls),[])):=by rw [Hid,HQ2.out,if_neg hme]
     have Tu:=fun (X:World) (h:RdAt X R rr)=>uZ R rr (aZ ls) X h;have hfe:(iF rr (aZ ls)).e=aZ ls:=by unfold iF;rw [if_pos he]
     have Sj:=fun (X:World) (h:RdAt X R (iF rr (aZ ls)))=>HEr.out _ X h;rw [hfe] at Sj;obtain ⟨me,Ws⟩:∃ me,me=aZ ls:=⟨_,rfl⟩;obtain ⟨r3,hr3⟩:∃ r3,r3=iF rr (aZ ls):=⟨_,rfl⟩;rw [<- hr3] at HQ3 Tu Sj;rw [<- Ws] at PS Tu Sj hme;have HCK:=aa PS;have HFl:=aa Tu;have HE2:=aa Sj;have q3:(me == 0)=false:=beq_eq_false_iff_ne.2 hme;have q4:(me != 0)=true:=by rw [bne_iff_ne];exact hme
     clear HQ HQ2 PS hme hend hgo he hvo hrl HP HV Tu hfe Sj Ws hr3;rw [HVO.out];go_wp2_with (first
      | (go_at_call 134;(with_reducible refine (HE.out _ hRd).mono ?_);rintro v w2 ⟨rfl,rfl⟩)
      | (go_at_call 175;(with_reducible refine (HCK.out _ _ hdo).mono ?_);rintro v w3 ⟨rfl,hb3⟩;replace hRd:=hRd.below hb3;replace hFF:=hFF.again (Fr.of_below hb3);replace hdo:=hdo.kept hb3)
      | (go_at_call 176;(with_reducible refine (HFl.out _ hRd).mono ?_);rintro v w4 ⟨rfl,hR4,hF4⟩;replace hFF:=hFF.again hF4;clear hRd)
      | (go_at_call 134;(with_reducible refine (HE2.out _ hR4).mono ?_);rintro v w5 ⟨rfl,rfl⟩))
     go_ret;rw [HQ3.out];exact ⟨none,0,rfl,a8 rfl,hR4,hFF,fun A off h=>by cases h⟩
   ·have q1:(rr.e == 0)=false:=beq_eq_false_iff_ne.2 he
    have q2:(rr.e != 0)=true:=by rw [bne_iff_ne];exact he
    have HQ3:Hid (jZ r=(rr,[])):=by rw [Hid,HQ.out];unfold kH;simp only;rw [if_neg he]
    clear HQ hend hgo he hvo hrl HP HV;by_cases h0:0<m
    ·have d1:=aR h0
     have d2:decide ((0:Int)<(m:Int))=true:=aR (by omega)
     exact z104
    ·have d1:=aM h0
     have d2:decide ((0:Int)<(m:Int))=false:=aM (by omega)
     exact z104
/-- n events, one behind the other, till an error -/
def oC:Nat->Rd->Rd×List Ev
 | 0,r=>(r,[])
 | n+1,r=>if r.e=0 then ((oC n (rEv r).1).1,(rEv r).2 :: (oC n (rEv r).1).2) else (r,[])
theorem Hw:∀ (n:Nat) (r:Rd),(oC n r).1.b.length<=r.b.length
 | 0,r=>aq _
 | n+1,r=>by
   unfold oC;split
   ·exact Nat.le_trans (Hw n _) (MN r)
   ·exact aq _
theorem Qd {m:Nat} {r:Rd} (h:r.e≠0):oC m r=(r,[]):=by
 cases m with
 | zero=>rfl
 | succ m=>unfold oC;rw [if_neg h]
theorem Oh {m:Nat} {r:Rd} (h:r.e=0):oC (m+1) r=((oC m (rEv r).1).1,(rEv r).2 :: (oC m (rEv r).1).2):=by
 rw [oC,if_pos h]
theorem Ep:∀ (n:Nat) (r:Rd),(dM n r).2.length<=n
 | 0,r=>aq _
 | n+1,r=>by
   unfold dM;split
   ·have:=Ep n (iQ r).1
    simp only [List.length_cons];omega
   ·simp
theorem J8 (r:Rd):(jZ r).2.length<=4096:=by
 have h:=Ep (bQ 4096 r).2 (bQ 4096 r).1;have h2:=(di 4096 r).2;unfold jZ kH;split
 ·split
  ·omega
  ·simp
 ·simp
theorem pV {w:World} {A off:Nat} {l:List Dot} (h:DotsIn w (some ⟨A,off,none⟩) l) (hl:l≠[]):A<w.heap.size:=by
 rcases h with h | ⟨A',off',he,h⟩
 ·exact absurd h hl
 ·cases he
  exact World.block_lt_of_cell? w _ (h.dev 0 (List.length_pos_iff.2 hl))
theorem Oi (r:Rd):EvSmall (rEv r).2:=by
 have h0:EvSmall ev0:=by constructor <;> exact Nat.zero_le _
 unfold rEv CV;split
 ·split
  ·rename_i h;exact uP h
  ·exact h0
 ·exact h0
end Go.Proofs.YthphepeniaemoaaGreat
