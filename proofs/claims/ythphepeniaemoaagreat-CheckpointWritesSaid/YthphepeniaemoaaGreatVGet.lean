/- Frames, plainly: what they are, how they are scanned, cut off anywhere; the reference's frame. Conditions: a body of at most 2^20 bytes. -/
import Derived.Test.YthphepeniaemoaaGreatCrc
import Derived.Test.YthphepeniaemoaaGreatMkB
import Derived.Test.YthphepeniaemoaaGreatReadK
import Derived.Test.YthphepeniaemoaaGreatRefPut
import Derived.Test.YthphepeniaemoaaGreatDec
import Derived.Test.YthphepeniaemoaaGreatMark
import Derived.Test.YthphepeniaemoaaGreatClone
import Derived.Great.BuildSlice
set_option linter.unusedSimpArgs false
set_option linter.unusedVariables false
set_option linter.unnecessarySimpa false
set_option maxHeartbeats 16000000
set_option maxRecDepth 100000
open Go.Proofs.Tryz
namespace Go.Proofs.YthphepeniaemoaaGreat
open Go.RowKit
theorem Hy {w:World} {base:Nat} {a:Option Addr} {n cap:Nat} {xs:List Value} (h:w.ownsRow base 5 1 (.slice a n cap) n xs):n<=cap:=by
 rcases h.2 with ⟨h0,hn⟩ | ⟨g,c,cur,he,_,_,hc,_⟩
 ·omega
 ·cases he;exact hc
theorem N7 (n:Nat) (h:n<4294967296):jK (le4 n)=n:=by
 have e:∀ k,(UInt8.ofNat (k % 256)).toNat=k % 256:=fun k=>by rw [UInt8.toNat_ofNat'];omega
 unfold le4 jK jK jK jK jK;rw [e,e,e,e];omega
theorem oH (b:Bytes):(dJ b).length=GL b.length:=by
 unfold dJ GL le4;simp;omega
theorem IM (b s:Bytes) (hb:b.length<=1048576):iK (dJ b++s)=(b,GL b.length,0):=by
 have e:dJ b++s=aj b.length++(b++(le4 (fK b)++s)):=by unfold dJ;simp
 have hg:dD (dJ b++s)=(b.length,(aj b.length).length,0):=by rw [e];exact vJ _ _ (by omega)
 have hl:(dJ b++s).length=(aj b.length).length+(b.length+(4+s.length)):=by rw [e];simp [le4];omega
 have hd:(dJ b++s).drop (aj b.length).length=b++(le4 (fK b)++s):=by rw [e];simp
 have hd2:(dJ b++s).drop ((aj b.length).length+b.length)=le4 (fK b)++s:=by rw [<- List.drop_drop,hd];simp
 unfold iK;rw [hg];simp only;rw [if_pos trivial,if_neg (by omega),if_neg (by omega),hd2,hd,List.take_left' (by rfl),List.take_left' (by rfl),if_pos (N7 _ (qC b))];rfl
theorem wH {n:Nat} (h:n<=1048576):GL n<=1048590:=by
 have:=aQ n (by omega);unfold GL;omega
def leK:Nat->Nat->Bytes
 | 0,_=>[]
 | k+1,n=>UInt8.ofNat (n % 256) :: leK k (n / 256)
theorem Qg (n:Nat):leK 4 n=le4 n:=by
 simp only [leK,le4,Nat.div_div_eq_div_mul]
theorem Hq (n:Nat) (w:World) (hn:n<4294967296):Calls prog 82 #[.int .u64 n,.int .i64 4] w (dO (le4 n) w):=by
 obtain ⟨i0,hi,hz0,hz1,hz2⟩:=info_parts Tryz.infoByte;go_enter func82,ntmps82;go_wp2
 refine y56 ?_
 intro hown0 hb0
 go_loopw [0,5,6] (fun x out i wr=>∃ (m:Nat) (d:Bytes),x=.int .u64 m/\m<=n/\i=.int .i64 d.length/\d.length<=4/\le4 n=d++leK (4 - d.length) m/\wr.ownsRow w.heap.size 5 1 out d.length (aA d)/\Below w.heap.size w wr) (fun _ _ i _=>4 - (intOf i).toNat)
 case atStart=>exact ⟨n,[],rfl,ar _,rfl,by simp,(Qg n).symm,hown0,hb0⟩
 case round =>
  obtain ⟨m,d,rfl,hm,rfl,hd,hpre,hown2,lm⟩:=hrel;have HP:=aq hpre;clear hpre;have hzw:=lm.size;by_cases h1:d.length<4
  ·have hS:leK (4 - d.length) m=UInt8.ofNat (m % 256) :: leK (4 - (d.length+1)) (m / 256):=by
        rw [show 4 - d.length=(4 - (d.length+1))+1 by omega];rfl
   have HS:=aq hS;have hx:Hid (Value.int .u8 ((m:Int) % 256)=.int .u8 (UInt8.ofNat (m % 256)).toNat):=by unfold Hid;congr 1;rw [UInt8.toNat_ofNat'];omega
   clear hS;go_wp2_with (at_builtin;go_loud (refine wpList_append_own _ rfl _ _ 54 rfl w.heap.size 5 i0 (.int .u8 0) 1 1 underlying54 hi hz0 hz1 hz2 rfl (by decide) _ _ _ rfl (hown2.alloc _) ⟨wr.heap.size,0,none⟩ 1 1 [_] rfl rfl (cell_one_new _ _ _) (by simp [Value.oneCell']) (by unfold maxLen;omega) (by omega) (by simp;omega) ?_))
   intro v' w2 hown3 hgrow _;have hb3:=(lm.alloc hzw _).grown hgrow (by simp;omega) (fun k hk=>(hown2.lt k hk).1);go_wp2;go_roundw
   case rel=>exact ⟨m / 256,d++[UInt8.ofNat (m % 256)],by go_num,by omega,by simp,by simp;omega,by rw [HP.out,HS.out];simp,by rw [hx.out] at hown3;simpa [bG,aA] using hown3,hb3⟩
   case measure => exact z67
  ·have HE:Hid (le4 n=d):=by rw [Hid,HP.out,show 4 - d.length=0 by omega];simp [leK]
   clear HP;go_wp2;go_ret;rw [HE.out];exact ⟨_,rfl,hown2,lm⟩
theorem Uz (n:Nat):le4 n≠[]:=by simp [le4]
theorem Dy (a:Option Addr) (cap:Nat) (body:Bytes) (w:World) (hl:body.length<=1048576) (hne:body≠[]) (h:BytesIn w a body) :
 Calls prog 42 #[.slice a body.length cap] w (dO (dJ body) w):=by
 obtain ⟨i0,hi,hz0,hz1,hz2⟩:=info_parts Tryz.infoByte;have hlen:=aQ body.length (by omega);have hsl:=qC body;have HP:=aq (fun (W:World)=>AP body.length W (by omega));have HS:=aq (fun (W:World) (h:BytesIn W a body)=>PQ a cap body W (by omega) h);have HB:=aq (fun (W:World)=>Hq (fK body) W hsl);have HE:Hid (dJ body=(aj body.length++body)++le4 (fK body)):=rfl;have HL:=aq (show (le4 (fK body)).length=4 from rfl);rcases h with h0 | ⟨A,off,rfl,hb0⟩
 ·exact absurd h0 hne
 have hin0:BytesIn w (some ⟨A,off,none⟩) body:=bd ⟨A,off,rfl,hb0⟩;have hpos:=List.length_pos_iff.2 hne;have Yi:A<w.heap.size:=hb0.block hpos;have l12:(aj body.length++body).length<=1048590:=by rw [av];omega
 have hwr:IntKind.u64.wrap ((fK body:Nat):Int)=((fK body:Nat):Int):=IntWalk.u64_in _ (by omega);clear hb0 hne;go_enter func42,ntmps42;go_upto_region 2 with (go_at_call 78;(with_reducible refine (HP.out _).mono ?_);rintro x W ⟨v,rfl,hown,hbt⟩;have hz:=hbt.size)
 obtain ⟨hin,hnews⟩:BytesIn W (some ⟨A,off,none⟩) body/\(∀ j u,(aA body)[j]?=some u->W.cell? ((⟨A,off,none⟩:Addr).add j)=some u):=by
  have h1:=hin0.kept hbt;refine ⟨h1,?_⟩;rcases h1 with h2 | ⟨A2,Uu,h2,h3⟩
  ·rw [h2] at hpos;simp at hpos
  ·cases h2;exact h3.news
 go_upto_region 3 with (at_builtin;refine wpList_append_own _ rfl _ _ 54 rfl w.heap.size 5 i0 (.int .u8 0) 1 1 underlying54 hi hz0 hz1 hz2 rfl (by decide) _ _ _ rfl hown ⟨A,off,none⟩ _ _ (aA body) rfl (by rw [aU];simp) hnews (bI _) (by unfold maxLen;omega) (by omega) (by omega) ?_;intro v2 w2 hown2 hgrow _;have hown3:w2.ownsRow w.heap.size 5 1 v2 ((aj body.length)++body).length (aA ((aj body.length)++body)):=(by rw [bG,av];exact hown2);have mG:=hbt.grown hgrow (by omega) (fun k hk=>(hown.lt k hk).1);have hz3:=Nat.le_trans hz hgrow.size;clear hown2 hgrow;replace hown:=hown3;replace hbt:=mG;replace hz:=hz3;clear hown3 mG hz3)
 have oD:=hin0.kept hbt;have hL4:(le4 (fK body)).length<=4:=Nat.le_of_eq HL.out;clear hin hnews;go_wp2_with (first
  | (go_at_call 83;(with_reducible refine (HS.out _ oD).mono ?_);rintro e w3 ⟨rfl,rfl⟩)
  | (go_at_call 82;(with_reducible refine (HB.out _).mono ?_);rintro e w4 ⟨v4,rfl,hown2,hb⟩;replace hown:=own_below hown hb;replace hbt:=hbt.trans (hb.mono hz);replace hz:=Nat.le_trans hz hb.size;obtain ⟨ad,cp,rfl,hnews⟩:=jg hown2 (Uz _);clear hown2 hb)
  | (at_builtin;refine wpList_append_own _ rfl _ _ 54 rfl w.heap.size 5 i0 (.int .u8 0) 1 1 underlying54 hi hz0 hz1 hz2 rfl (by decide) _ _ _ rfl hown ad _ _ (aA (le4 (fK body))) rfl (by rw [aU];simp) hnews (bI _) (by unfold maxLen;omega) (by omega) (by omega) ?_;intro v2 w2 hown2 hgrow _;have hown3:w2.ownsRow w.heap.size 5 1 v2 ((aj body.length++body)++(le4 (fK body))).length (aA ((aj body.length++body)++(le4 (fK body)))):=(by rw [bG,av];exact hown2);have mG:=hbt.grown hgrow (by omega) (fun k hk=>(hown.lt k hk).1);have hz3:=Nat.le_trans hz hgrow.size;clear hown2 hgrow;replace hown:=hown3;replace hbt:=mG;replace hz:=hz3;clear hown3 mG hz3)
  )
 go_ret;rw [HE.out];exact ⟨_,rfl,hown,hbt⟩
/-- marks, read -/
def kz (y:Rd×List Dot):Rd×List Dot:=if y.1.e=0 then (if aZ y.2=0 then y else (gY y.1 (aZ y.2),[])) else (y.1,[])
def jU (r:Rd):Rd×List Dot:=kz (dS (bQ 4096 r).2 (bQ 4096 r).1)
theorem J4 (r:Rd):(jU r).1.b.length<=r.b.length:=by
 have h1:=(dA 4096 r).1;have h2:=yh (bQ 4096 r).2 (bQ 4096 r).1;unfold jU kz;split
 ·split
  ·omega
  ·unfold gY;split <;> simp only <;> omega
 ·simp only;omega
def Jr (R:Nat) (y:Rd×List Dot) (w:World) (x:Ending) (w':World):Prop :=
 ∃ a cap,x=.returned (.slice a y.2.length cap)/\DotsIn w' a y.2/\RdAt w' R y.1/\Fr (isR R) w w'/\(∀ A off,a=some ⟨A,off,none⟩->w.heap.size<=A)
theorem Tryz.infoMark:(prog.info? 202).map (fun i=>(i.zero,i.size,i.bytes))=some (some (.agg #[.int .i64 0,.int .i64 0,.int .i64 0]),3,24):=by kernel_rfl
theorem CP {w:World} {base:Nat} {t:TypeId} {v:Value} {l:List Dot} (h:w.ownsRow base t 3 v l.length (aJ l)):∃ a cap,v=.slice a l.length cap/\DotsIn w a l/\(∀ A off,a=some ⟨A,off,none⟩->base<=A):=by
 rcases h.2 with ⟨rfl,hn⟩ | ⟨g,cap,cur,rfl,hb,rest⟩
 ·exact ⟨none,0,by rw [hn],bb (List.length_eq_zero_iff.1 hn),fun _ _ h=>by cases h⟩
 ·refine ⟨some ⟨g,0,none⟩,cap,rfl,bd ⟨g,0,rfl,?_⟩,fun A off e=>by cases e;exact hb⟩
  have hc:=World.ownsRow.cells (g:=g) h rfl;have key:∀ j u,(aJ l)[j]?=some u->w.cell? ⟨g,j,none⟩=some u:=fun j u hu=>by
   have:=hc j u hu;rwa [Addr.add_mid,aw] at this
  refine ⟨fun i hi=>?_,fun i hi=>?_,fun i hi=>?_⟩
  ·have:=key _ _ (gJ l i hi).1;simpa using this
  ·have:=key _ _ (gJ l i hi).2.1;simpa using this
  ·have:=key _ _ (gJ l i hi).2.2;simpa using this
theorem uV (l:List Dot) (d:Dot):aJ l++[.int .i64 d.a.dev,.int .i64 d.a.inc,.int .i64 d.seq]=aJ (l++[d]):=by simp [aJ]
theorem z103 {p : Prop} (h : p := by
 go_wp2_with (go_at_call 134; (with_reducible refine (HE.out _ hRd).mono ?_); rintro v w2 ⟨rfl, rfl⟩)
 go_ret
 rw [HQ3.out]
 exact ⟨none, 0, rfl, bb rfl, hRd, hFF, fun A off h => by cases h⟩) : p := h
theorem y33 {p q : Prop} (k : q) (h : PLift q -> p := by
 intro kk
 have hdi : decide ((0 : Int) < ((j : Nat) : Int) + 1) = true := aR (by omega)
 have hwr : IntKind.u64.wrap (((j : Nat) : Int) + 1 - 1) = ((j : Nat) : Int) := by rw [show ((j : Nat) : Int) + 1 - 1 = j by omega]; exact IntWalk.u64_in _ (by omega)
 revert hdi hwr
 exact kk.down) : p := h ⟨k⟩
theorem Px (R:Nat) (r:Rd) (w:World) (hl:r.b.length<=1073741824) (h:RdAt w R r) :
 Calls prog 135 #[.pointer (some ⟨R,0,none⟩)] w (Jr R (jU r) w):=by
 obtain ⟨i0,hi,hz0,hz1,hz2⟩:=info_parts Tryz.infoMark;have hfit:=dA 4096 r;have HN0:=oQ R r 4096 w hl (by omega) h;have HV:Hid (jU r=kz (dS (bQ 4096 r).2 (bQ 4096 r).1)):=rfl;obtain ⟨x,N,hx⟩:∃ x N,bQ 4096 r=(x,N):=⟨_,_,rfl⟩;rw [hx] at hfit HN0 HV;simp only at hfit HN0 HV;obtain ⟨hxl,hN⟩:=hfit;have HN:Hid (Calls prog 89 #[.pointer (some ⟨R,0,none⟩),.int .u64 4096] w (gV R x (.int .u64 N) w)):=HN0;have HEr:=aq (fun (rr:Rd) (W:World) (h:RdAt W R rr)=>Fa R rr W h);have HDg:=aq (fun (rr:Rd) (W:World) (hl:rr.b.length<=1073741824) (h:RdAt W R rr)=>xJ R rr W hl h);have hR:=h.lt;clear hx HN0 h;go_enter func135,ntmps135;go_upto_region 3 with (go_at_call 89;(with_reducible refine HN.out.mono ?_);rintro v W ⟨rfl,hRx,hFx⟩)
 have hzW:=hFx.size;clear HN;go_wp2;go_loopw [3,4] (fun out n wr=>∃ (m:Nat) (rr:Rd) (ls:List Dot),n=.int .u64 m/\m+ls.length<=4096/\rr.b.length<=1073741824/\wr.ownsRow W.heap.size 202 3 out ls.length (aJ ls)/\RdAt wr R rr/\Fr (isR R) W wr/\dS N x=((dS m rr).1,ls++(dS m rr).2)) (fun _ n _=>(intOf n).toNat)
 case atStart=>exact ⟨N,x,[],rfl,by simp;omega,by omega,World.ownsRow_nil _ _ _ _,hRx,Fr.refl _ _,by simp⟩
 case round =>
  obtain ⟨m,rr,ls,rfl,hmn,hrl,hown,hRd,hF,hpre⟩:=hrel;have HP:=aq hpre;clear hpre;have hzw:=hF.size;by_cases hgo:0<m/\rr.e=0
  ·obtain ⟨hm0,he0⟩:=hgo
   obtain ⟨j,rfl⟩:∃ j,m=j+1:=⟨m - 1,by omega⟩;have hq:(rr.e == 0)=true:=beq_iff_eq.2 he0;have hdm:decide (0<j+1)=true:=by simp
   refine y33 ?_
   intro hdi hwr
   have hf:=qc rr;have HS:Hid (dS N x=((dS j (iI rr).1).1,(ls++[(iI rr).2])++(dS j (iI rr).1).2)):=by rw [Hid,HP.out,AV he0];simp
   have HG0:=HDg.out rr;obtain ⟨r2,d,hrd⟩:∃ r2 d,iI rr=(r2,d):=⟨_,_,rfl⟩;rw [hrd] at HG0 HS hf;simp only at HG0 HS hf;have HG:=aq (fun (X:World) (h:RdAt X R rr)=>HG0 X hrl h);have HE:=aq (fun (X:World) (h:RdAt X R rr)=>HEr.out rr X h);clear hrd HG0 HP he0 hm0;go_upto_region 6 with (first
        | (go_at_call 134;(with_reducible refine (HE.out _ hRd).mono ?_);rintro v w2 ⟨rfl,rfl⟩)
        | (go_at_call 137;(with_reducible refine (HG.out _ hRd).mono ?_);rintro v wd ⟨rfl,hR2,hF2⟩))
   refine aI (fun W1 hW1=>?_);have hb1:Below wd.heap.size wd W1:=by rw [hW1.out];go_grown
   have x0:W1.cell? ⟨wd.heap.size,0,none⟩=some (.int .i64 d.a.dev):=by rw [hW1.out];go_simp
   have x1:W1.cell? ⟨wd.heap.size,1,none⟩=some (.int .i64 d.a.inc):=by rw [hW1.out];go_simp
   have x2:W1.cell? ⟨wd.heap.size,2,none⟩=some (.int .i64 d.seq):=by rw [hW1.out];go_simp
   have hown1:=ownsRow_below (Bc hown hF2 (by omega)) hb1;have hR3:=hR2.below hb1;have hF3:=(hF.again hF2).again (Fr.of_below hb1);have XH:=hF3.size;clear hW1 hb1 hown hR2 hF2 hRd hF HE HG;go_wp2_with (at_builtin;go_loud (refine wpList_append_own _ rfl _ _ 43 rfl W.heap.size 202 i0 (.agg #[.int .i64 0,.int .i64 0,.int .i64 0]) 3 24 underlying43 hi hz0 hz1 hz2 rfl (by decide) _ _ _ rfl (hown1.alloc _) ⟨W1.heap.size,0,none⟩ 1 1 [.int .i64 d.a.dev,.int .i64 d.a.inc,.int .i64 d.seq] rfl rfl (Uw W1 d _) (by simp [Value.oneCell']) (by unfold maxLen;omega) (by omega) (by simp;omega) ?_))
   intro v' w5 hown5 hg5 _;rw [uV] at hown5;have hR5:=(hR3.below ((bh _ _).alloc (ar _) _)).grown hg5 (fun g hg=>by have:=(hown1.lt g hg).1;omega);have hF5:=(hF3.alloc (Obj.cells #[.int .i64 d.a.dev,.int .i64 d.a.inc,.int .i64 d.seq] 202)).grown hg5 (fun g hg=>(hown1.lt g hg).1);go_wp2;go_roundw
   case rel=>exact ⟨j,r2,ls++[d],by go_num,by simp;omega,by omega,by rw [av];exact hown5,hR5,hF5,HS.out⟩
   case measure=>simp [intOf]
  ·have hend:dS m rr=(rr,[]):=by
        by_cases h0:m=0
        ·subst h0;rfl
        ·exact Em (fun e=>hgo ⟨by omega,e⟩)
   have HQ:Hid (jU r=kz (rr,ls)):=by rw [Hid,HV.out,HP.out,hend];simp
   have HE:=aq (fun (X:World) (h:RdAt X R rr)=>HEr.out rr X h);have hlen:ls.length<=4096:=by omega
   obtain ⟨ao,co,hvo,hdo,hao⟩:=CP hown;have HVO:=aq hvo;have hFF:=hFx.again hF;by_cases he:rr.e=0
   ·have hm0:m=0:=by
     by_cases h0:m=0
     ·exact h0
     ·exact absurd ⟨by omega,he⟩ hgo
    subst hm0;have q1:(rr.e == 0)=true:=beq_iff_eq.2 he;have q2:(rr.e != 0)=false:=by rw [bne_eq_false_iff_eq];exact he
    have HQ2:Hid (jU r=if aZ ls=0 then (rr,ls) else (gY rr (aZ ls),[])):=by rw [Hid,HQ.out];unfold kz;simp only;rw [if_pos he]
    have Pj:=fun (X:World) (c:Nat) (h:DotsIn X ao ls)=>mP ao c ls X (by omega) h;by_cases hme:aZ ls=0
    ·have HQ3:Hid (jU r=(rr,ls)):=by rw [Hid,HQ2.out,if_pos hme]
     rw [hme] at Pj;have HCK:=aq Pj;clear HQ HQ2 Pj hme hend hgo he hvo hrl HP HV;rw [HVO.out];go_wp2_with (first
      | (go_at_call 134;(with_reducible refine (HE.out _ hRd).mono ?_);rintro v w2 ⟨rfl,rfl⟩)
      | (go_at_call 175;(with_reducible refine (HCK.out _ _ hdo).mono ?_);rintro v w3 ⟨rfl,hb3⟩;replace hRd:=hRd.below hb3;replace hFF:=hFF.again (Fr.of_below hb3);replace hdo:=hdo.kept hb3))
     go_ret;rw [HQ3.out];exact ⟨ao,co,rfl,hdo,hRd,hFF,fun A off h=>Nat.le_trans hzW (hao A off h)⟩
    ·have HQ3:Hid (jU r=(gY rr (aZ ls),[])):=by rw [Hid,HQ2.out,if_neg hme]
     have Td:=fun (X:World) (h:RdAt X R rr)=>vW R rr (aZ ls) X h;have hfe:(gY rr (aZ ls)).e=aZ ls:=by unfold gY;rw [if_pos he]
     have RD:=fun (X:World) (h:RdAt X R (gY rr (aZ ls)))=>HEr.out _ X h;rw [hfe] at RD;obtain ⟨me,VN⟩:∃ me,me=aZ ls:=⟨_,rfl⟩;obtain ⟨r3,hr3⟩:∃ r3,r3=gY rr (aZ ls):=⟨_,rfl⟩;rw [<- hr3] at HQ3 Td RD;rw [<- VN] at Pj Td RD hme;have HCK:=aq Pj;have HFl:=aq Td;have HE2:=aq RD;have q3:(me == 0)=false:=beq_eq_false_iff_ne.2 hme;have q4:(me != 0)=true:=by rw [bne_iff_ne];exact hme
     clear HQ HQ2 Pj hme hend hgo he hvo hrl HP HV Td hfe RD VN hr3;rw [HVO.out];go_wp2_with (first
      | (go_at_call 134;(with_reducible refine (HE.out _ hRd).mono ?_);rintro v w2 ⟨rfl,rfl⟩)
      | (go_at_call 175;(with_reducible refine (HCK.out _ _ hdo).mono ?_);rintro v w3 ⟨rfl,hb3⟩;replace hRd:=hRd.below hb3;replace hFF:=hFF.again (Fr.of_below hb3);replace hdo:=hdo.kept hb3)
      | (go_at_call 176;(with_reducible refine (HFl.out _ hRd).mono ?_);rintro v w4 ⟨rfl,hR4,hF4⟩;replace hFF:=hFF.again hF4;clear hRd)
      | (go_at_call 134;(with_reducible refine (HE2.out _ hR4).mono ?_);rintro v w5 ⟨rfl,rfl⟩))
     go_ret;rw [HQ3.out];exact ⟨none,0,rfl,bb rfl,hR4,hFF,fun A off h=>by cases h⟩
   ·have q1:(rr.e == 0)=false:=beq_eq_false_iff_ne.2 he
    have q2:(rr.e != 0)=true:=by rw [bne_iff_ne];exact he
    have HQ3:Hid (jU r=(rr,[])):=by rw [Hid,HQ.out];unfold kz;simp only;rw [if_neg he]
    clear HQ hend hgo he hvo hrl HP HV;by_cases h0:0<m
    ·have d1:=aR h0
     have d2:decide ((0:Int)<(m:Int))=true:=aR (by omega)
     exact z103
    ·have d1:=aM h0
     have d2:decide ((0:Int)<(m:Int))=false:=aM (by omega)
     exact z103
/-- n events, one behind the other, till an error -/
def oU:Nat->Rd->Rd×List Ev
 | 0,r=>(r,[])
 | n+1,r=>if r.e=0 then ((oU n (rEv r).1).1,(rEv r).2 :: (oU n (rEv r).1).2) else (r,[])
theorem Hl:∀ (n:Nat) (r:Rd),(oU n r).1.b.length<=r.b.length
 | 0,r=>ar _
 | n+1,r=>by
   unfold oU;split
   ·exact Nat.le_trans (Hl n _) (Me r)
   ·exact ar _
theorem PS {m:Nat} {r:Rd} (h:r.e≠0):oU m r=(r,[]):=by
 cases m with
 | zero=>rfl
 | succ m=>unfold oU;rw [if_neg h]
theorem NM {m:Nat} {r:Rd} (h:r.e=0):oU (m+1) r=((oU m (rEv r).1).1,(rEv r).2 :: (oU m (rEv r).1).2):=by
 rw [oU,if_pos h]
theorem Ej:∀ (n:Nat) (r:Rd),(dS n r).2.length<=n
 | 0,r=>ar _
 | n+1,r=>by
   unfold dS;split
   ·have:=Ej n (iI r).1
    simp only [List.length_cons];omega
   ·simp
theorem J3 (r:Rd):(jU r).2.length<=4096:=by
 have h:=Ej (bQ 4096 r).2 (bQ 4096 r).1;have h2:=(dA 4096 r).2;unfold jU kz;split
 ·split
  ·omega
  ·simp
 ·simp
theorem qA {w:World} {A off:Nat} {l:List Dot} (h:DotsIn w (some ⟨A,off,none⟩) l) (hl:l≠[]):A<w.heap.size:=by
 rcases h with h | ⟨A',off',he,h⟩
 ·exact absurd h hl
 ·cases he
  exact World.block_lt_of_cell? w _ (h.dev 0 (List.length_pos_iff.2 hl))
theorem NP (r:Rd):EvSmall (rEv r).2:=by
 have h0:EvSmall ev0:=by constructor <;> exact Nat.zero_le _
 unfold rEv CG;split
 ·split
  ·rename_i h;exact vM h
  ·exact h0
 ·exact h0
end Go.Proofs.YthphepeniaemoaaGreat
