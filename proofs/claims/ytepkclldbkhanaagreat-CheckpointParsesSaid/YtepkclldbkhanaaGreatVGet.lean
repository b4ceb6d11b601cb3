/- What was packed is read again: plain laws. Conditions: texts as an event that may be has them. -/
import Derived.Test.YtepkclldbkhanaaGreatDec
import Derived.Test.YtepkclldbkhanaaGreatReadI
import Derived.Test.YtepkclldbkhanaaGreatClone
import Derived.Maps.AppendAt
import Derived.Test.YtepkclldbkhanaaGreatCrc
import Derived.Test.YtepkclldbkhanaaGreatTab
import Derived.Test.YtepkclldbkhanaaGreatMark
import Derived.Great.BuildSlice
set_option linter.unusedSimpArgs false
set_option linter.unusedVariables false
set_option linter.unnecessarySimpa false
set_option maxHeartbeats 16000000
set_option maxRecDepth 100000
open Go.Proofs.Tryz
namespace Go.Proofs.YtepkclldbkhanaaGreat
theorem Dj:∀ (n k m:Nat) (s:Bytes),n * 128 ^ k+m<18446744073709551616→k≤9→m<128 ^ k→(0<k→0<n)→dN k m (aS n++s)=(n * 128 ^ k+m,k+(aS n).length,0):=by
 intro n;induction n using Nat.strongRecOn with
 | _ n ih =>
   intro k m s hlt hk hm hpos;by_cases hn:n<128
   ·rw [jE n hn]
    simp only [List.singleton_append,dN,List.length_singleton];have hc:(UInt8.ofNat n).toNat=n:=by simp;omega
    rw [hc];have h1:¬ ((0<k∧n=0)∨(k=9∧1<n)):=by
       rintro (⟨a,b⟩ | ⟨a,b⟩)
       ·have:=hpos a;omega
       ·subst a
        have h4:128 ^ 9=9223372036854775808:=by decide
        rw [h4] at hlt;omega
    rw [if_neg h1,if_pos hn,Nat.mod_eq_of_lt hn,Nat.add_comm]
   ·rw [nG n hn]
    simp only [List.cons_append,dN,List.length_cons];have hc:(UInt8.ofNat (n % 128+128)).toNat=n % 128+128:=by simp;omega
    rw [hc];have hk8:k≤8:=by
       by_cases h9:k=9
       ·subst h9
        have h4:128 ^ 9=9223372036854775808:=by decide
        rw [h4] at hlt;omega
       ·omega
    have h1:¬ ((0<k∧n % 128+128=0)∨(k=9∧1<n % 128+128)):=by omega
    rw [if_neg h1,if_neg (by omega)];have h6:128 ^ (k+1)=128 ^ k * 128:=Nat.pow_succ ..;have h7:(n % 128+128) % 128=n % 128:=by omega
    rw [h7];have h8:n * 128 ^ k=n / 128 * 128 ^ (k+1)+n % 128 * 128 ^ k:=by
       rw [h6];have:n=n / 128 * 128+n % 128:=by omega
       conv=>lhs;rw [this]
       rw [Nat.add_mul,Nat.mul_assoc,Nat.mul_comm 128]
    have hmb:n % 128 * 128 ^ k≤127 * 128 ^ k:=Nat.mul_le_mul_right _ (by omega);rw [ih (n / 128) (by omega) (k+1) (m+n % 128 * 128 ^ k) s (by omega) (by omega) (by omega) (by omega)];simp only [Prod.mk.injEq,and_true];constructor
    ·omega
    ·omega
theorem Ky (n:Nat) (s:Bytes) (h:n<18446744073709551616):bP (aS n++s)=(n,(aS n).length,0):=by
 have:=Dj n 0 0 s (by simpa using h) (by omega) (by decide) (by omega);unfold bP;rw [this];simp
end Go.Proofs.YtepkclldbkhanaaGreat
/- An event, read off bytes: event.Read. Conditions: at most 2^30 bytes. -/
namespace Go.Proofs.YtepkclldbkhanaaGreat
open Go.RowKit
end Go.Proofs.YtepkclldbkhanaaGreat
/- What the references pack: numbers, texts, dots, stamps. Conditions: at most 2^29 bytes. -/
namespace Go.Proofs.YtepkclldbkhanaaGreat
open Go.RowKit
theorem MV (n:Nat):aS n≠[]:=by
 rw [aS];split <;> simp
theorem own_below {w w1:World} {base:Nat} {v:Value} {n:Nat} {xs:List Value} (h:w.ownsRow base 5 1 v n xs) (hb:Below w.heap.size w w1):w1.ownsRow base 5 1 v n xs:=ownsRow_below h hb
end Go.Proofs.YtepkclldbkhanaaGreat
/- What the references pack: texts, flags, dots, stamps. Conditions: at most 2^29 bytes. -/
namespace Go.Proofs.YtepkclldbkhanaaGreat
open Go.RowKit
end Go.Proofs.YtepkclldbkhanaaGreat
/- An event's bytes as the reference packs them. Conditions: an event that may be. -/
namespace Go.Proofs.YtepkclldbkhanaaGreat
open Go.RowKit
theorem Gv {w w':World} {b o:Nat} {cs:List Value} {g:Option Nat} (h:w.rangeAt b o cs) (hg:w.grownBy w' g) (hb:b<w.heap.size) (hne:some b≠g):w'.rangeAt b o cs:=fun j v hv=>(World.cell?_of_block (hg.block b hb hne)).trans (h j v hv)
theorem own_ne {v v2:Value} {n b:Nat} (hat:v2.ownBlock=v.ownBlock∨v2.ownBlock=some n) (hne:∀ g,v.ownBlock=some g→g≠b) (hb:b<n):∀ g,v2.ownBlock=some g→g≠b:=by
 intro g hg;rcases hat with h | h
 ·exact hne g (h.symm.trans hg)
 ·rw [h] at hg;cases hg;omega
/-- what has been packed so far, and the local cookie in block bc -/
structure OutInv (W0:World) (bc:Nat) (ck:Ck) (v:Value) (L:Bytes) (W:World):Prop where
 own:W.ownsRow W0.heap.size 5 1 v L.length (aX L)
 bel:Below W0.heap.size W0 W
 K:W.rangeAt bc 0 (zu ck)
 ne:∀ g,v.ownBlock=some g→g≠bc
 lt:bc<W.heap.size
theorem OutInv.step {W0:World} {bc:Nat} {ck:Ck} {v:Value} {L:Bytes} {w w':World} (h:OutInv W0 bc ck v L w) (hb:Below w.heap.size w w'):OutInv W0 bc ck v L w' :=
 ⟨own_below h.own hb,below2 h.bel hb,aj h.K hb,h.ne,Nat.lt_of_lt_of_le h.lt hb.size⟩
theorem OutInv.app {W0:World} {bc:Nat} {ck:Ck} {v v2:Value} {L M:Bytes} {w w2:World} (h:OutInv W0 bc ck v L w) (hown2:w2.ownsRow W0.heap.size 5 1 v2 (L.length+M.length) (aX L++aX M))
 (hg:w.grownBy w2 v.ownBlock) (hat:v2.ownBlock=v.ownBlock∨v2.ownBlock=some w.heap.size):OutInv W0 bc ck v2 (L++M) w2 :=
 ⟨by rw [eQ,List.length_append];exact hown2,h.bel.grown hg h.bel.size (fun k hk=>(h.own.lt k hk).1),Gv h.K hg h.lt (fun e=>h.ne _ e.symm rfl),own_ne hat h.ne h.lt,Nat.lt_of_lt_of_le h.lt hg.size⟩
end Go.Proofs.YtepkclldbkhanaaGreat
/- Frames, plainly: what they are, how they are scanned, cut off anywhere; the reference's frame. Conditions: a body of at most 2^20 bytes. -/
namespace Go.Proofs.YtepkclldbkhanaaGreat
open Go.RowKit
theorem Az {w:World} {base:Nat} {a:Option Addr} {n cap:Nat} {xs:List Value} (h:w.ownsRow base 5 1 (.slice a n cap) n xs):n≤cap:=by
 exact z114
theorem DW (n:Nat) (h:n<4294967296):fF (le4 n)=n:=by
 have e:∀ k,(UInt8.ofNat (k % 256)).toNat=k % 256:=fun k=>by rw [UInt8.toNat_ofNat'];omega
 unfold le4 fF fF fF fF fF;rw [e,e,e,e];omega
theorem Kz (b:Bytes):(dw b).length=LC b.length:=by
 unfold dw LC le4;simp;omega
theorem Ib (b s:Bytes) (hb:b.length≤1048576):fG (dw b++s)=(b,LC b.length,0):=by
 have e:dw b++s=aS b.length++(b++(le4 (gX b)++s)):=by unfold dw;simp
 have hg:bP (dw b++s)=(b.length,(aS b.length).length,0):=by rw [e];exact Ky _ _ (by omega)
 have hl:(dw b++s).length=(aS b.length).length+(b.length+(4+s.length)):=by rw [e];simp [le4];omega
 have hd:(dw b++s).drop (aS b.length).length=b++(le4 (gX b)++s):=by rw [e];simp
 have hd2:(dw b++s).drop ((aS b.length).length+b.length)=le4 (gX b)++s:=by rw [← List.drop_drop,hd];simp
 unfold fG;rw [hg];simp only;rw [if_pos trivial,if_neg (by omega),if_neg (by omega),hd2,hd,List.take_left' (by rfl),List.take_left' (by rfl),if_pos (DW _ (ny b))];rfl
end Go.Proofs.YtepkclldbkhanaaGreat
/- Marks, read. Conditions: at most 2^30 bytes. -/
namespace Go.Proofs.YtepkclldbkhanaaGreat
open Go.RowKit
/-- marks, read -/
def je (y:Rd×List Dot):Rd×List Dot:=if y.1.e=0 then (if aW y.2=0 then y else (fV y.1 (aW y.2),[])) else (y.1,[])
def fC (r:Rd):Rd×List Dot:=je (bT (bg 4096 r).2 (bg 4096 r).1)
theorem Aa (r:Rd):(fC r).1.b.length≤r.b.length:=by
 have h1:=(bf 4096 r).1;have h2:=pK (bg 4096 r).2 (bg 4096 r).1;unfold fC je;split
 ·split
  ·omega
  ·unfold fV;split <;> simp only <;> omega
 ·simp only;omega
def I4 (R:Nat) (y:Rd×List Dot) (w:World) (x:Ending) (w':World):Prop :=
 ∃ a cap,x=.returned (.slice a y.2.length cap)∧DotsIn w' a y.2∧RdAt w' R y.1∧Fr (isR R) w w'∧(∀ A off,a=some ⟨A,off,none⟩→w.heap.size≤A)
theorem Tryz.infoMark:(prog.info? 174).map (fun i=>(i.zero,i.size,i.bytes))=some (some (.agg #[.int .i64 0,.int .i64 0,.int .i64 0]),3,24):=by kernel_rfl
theorem qK {w:World} {base:Nat} {t:TypeId} {v:Value} {l:List Dot} (h:w.ownsRow base t 3 v l.length (aY l)):∃ a cap,v=.slice a l.length cap∧DotsIn w a l∧(∀ A off,a=some ⟨A,off,none⟩→base≤A):=by
 rcases h.2 with ⟨rfl,hn⟩ | ⟨g,cap,cur,rfl,hb,rest⟩
 ·exact ⟨none,0,by rw [hn],Or.inl (List.length_eq_zero_iff.1 hn),fun _ _ h=>by cases h⟩
 ·refine ⟨some ⟨g,0,none⟩,cap,rfl,Or.inr ⟨g,0,rfl,?_⟩,fun A off e=>by cases e;exact hb⟩
  have hc:=World.ownsRow.cells (g:=g) h rfl;have key:∀ j u,(aY l)[j]?=some u→w.cell? ⟨g,j,none⟩=some u:=fun j u hu=>by
   have:=hc j u hu;rwa [Addr.add_mid,Nat.zero_add] at this
  refine ⟨fun i hi=>?_,fun i hi=>?_,fun i hi=>?_⟩
  ·have:=key _ _ (iH l i hi).1;simpa using this
  ·have:=key _ _ (iH l i hi).2.1;simpa using this
  ·have:=key _ _ (iH l i hi).2.2;simpa using this
theorem pz (l:List Dot) (d:Dot):aY l++[.int .i64 d.a.dev,.int .i64 d.a.inc,.int .i64 d.seq]=aY (l++[d]):=by simp [aY]
theorem z99 {p : Prop} (h : p := by
 go_wp2_with (go_at_call 51; (with_reducible refine (HE.out _ hRd).mono ?_); rintro v w2 ⟨rfl, rfl⟩)
 go_ret
 rw [HQ3.out]
 exact ⟨none, 0, rfl, Or.inl rfl, hRd, hFF, fun A off h => by cases h⟩) : p := h
theorem z73 {p : Prop} (h : p := by
 by_cases h0 : m = 0
 ·subst h0; rfl
 ·exact sN (fun e => hgo ⟨by omega, e⟩)) : p := h
theorem y57 {p q : Prop} (k : q) (h : PLift q → p := by
 intro kk
 have q1 : (rr.e == 0) = false := beq_eq_false_iff_ne.2 he
 have q2 : (rr.e != 0) = true := by rw [bne_iff_ne]; exact he
 have HQ3 : Hid (fC r = (rr, [])) := by rw [Hid, HQ.out]; unfold je; simp only; rw [if_neg he]
 revert q1 q2 HQ3
 exact kk.down) : p := h ⟨k⟩
theorem y48 {p q : Prop} (k : q) (h : PLift q → p := by
 intro kk
 have q1 : (rr.e == 0) = true := beq_iff_eq.2 he
 have q2 : (rr.e != 0) = false := by rw [bne_eq_false_iff_eq]; exact he
 have HQ2 : Hid (fC r = if aW ls = 0 then (rr, ls) else (fV rr (aW ls), [])) := by rw [Hid, HQ.out]; unfold je; simp only; rw [if_pos he]
 revert q1 q2 HQ2
 exact kk.down) : p := h ⟨k⟩
theorem y25 {p q : Prop} (k : q) (h : PLift q → p := by
 intro kk
 have hdi : decide ((0 : Int) < ((j : Nat) : Int) + 1) = true := decide_eq_true (by omega)
 have hwr : IntKind.u64.wrap (((j : Nat) : Int) + 1 - 1) = ((j : Nat) : Int) := by rw [show ((j : Nat) : Int) + 1 - 1 = j by omega]; exact IntWalk.u64_in _ (by omega)
 revert hdi hwr
 exact kk.down) : p := h ⟨k⟩
theorem Pe (R:Nat) (r:Rd) (w:World) (hl:r.b.length≤1073741824) (h:RdAt w R r) :
 Calls prog 52 #[.pointer (some ⟨R,0,none⟩)] w (I4 R (fC r) w):=by
 obtain ⟨i0,hi,hz0,hz1,hz2⟩:=info_parts Tryz.infoMark;have hfit:=bf 4096 r;have HN0:=oD R r 4096 w hl (by omega) h;have HV:Hid (fC r=je (bT (bg 4096 r).2 (bg 4096 r).1)):=rfl;obtain ⟨x,N,hx⟩:∃ x N,bg 4096 r=(x,N):=⟨_,_,rfl⟩;rw [hx] at hfit HN0 HV;simp only at hfit HN0 HV;obtain ⟨hxl,hN⟩:=hfit;have HN:Hid (Calls prog 18 #[.pointer (some ⟨R,0,none⟩),.int .u64 4096] w (ig R x (.int .u64 N) w)):=HN0;have HEr:=Lib.hid (fun (rr:Rd) (W:World) (h:RdAt W R rr)=>EC R rr W h);have HDg:=Lib.hid (fun (rr:Rd) (W:World) (hl:rr.b.length≤1073741824) (h:RdAt W R rr)=>wK R rr W hl h);have hR:=h.lt;clear hx HN0 h;go_enter func52,ntmps52;go_upto_region 3 with (go_at_call 18;(with_reducible refine HN.out.mono ?_);rintro v W ⟨rfl,hRx,hFx⟩)
 have hzW:=hFx.size;clear HN;go_wp2;go_loopw [3,4] (fun out n wr=>∃ (m:Nat) (rr:Rd) (ls:List Dot),n=.int .u64 m∧m+ls.length≤4096∧rr.b.length≤1073741824∧wr.ownsRow W.heap.size 174 3 out ls.length (aY ls)∧RdAt wr R rr∧Fr (isR R) W wr∧bT N x=((bT m rr).1,ls++(bT m rr).2)) (fun _ n _=>(intOf n).toNat)
 case atStart=>exact ⟨N,x,[],rfl,by simp;omega,by omega,World.ownsRow_nil _ _ _ _,hRx,Fr.refl _ _,by simp⟩
 case round =>
  obtain ⟨m,rr,ls,rfl,hmn,hrl,hown,hRd,hF,hpre⟩:=hrel;have HP:=Lib.hid hpre;clear hpre;have hzw:=hF.size;by_cases hgo:0<m∧rr.e=0
  ·obtain ⟨hm0,he0⟩:=hgo
   obtain ⟨j,rfl⟩:∃ j,m=j+1:=⟨m - 1,by omega⟩;have hq:(rr.e == 0)=true:=beq_iff_eq.2 he0;have hdm:decide (0<j+1)=true:=by simp
   refine y25 ?_
   intro hdi hwr
   have hf:=jU rr;have HS:Hid (bT N x=((bT j (eY rr).1).1,(ls++[(eY rr).2])++(bT j (eY rr).1).2)):=by rw [Hid,HP.out,lh he0];simp
   have HG0:=HDg.out rr;obtain ⟨r2,d,hrd⟩:∃ r2 d,eY rr=(r2,d):=⟨_,_,rfl⟩;rw [hrd] at HG0 HS hf;simp only at HG0 HS hf;have HG:=Lib.hid (fun (X:World) (h:RdAt X R rr)=>HG0 X hrl h);have HE:=Lib.hid (fun (X:World) (h:RdAt X R rr)=>HEr.out rr X h);clear hrd HG0 HP he0 hm0;go_upto_region 6 with (first
        | (go_at_call 51;(with_reducible refine (HE.out _ hRd).mono ?_);rintro v w2 ⟨rfl,rfl⟩)
        | (go_at_call 54;(with_reducible refine (HG.out _ hRd).mono ?_);rintro v wd ⟨rfl,hR2,hF2⟩))
   refine au (fun W1 hW1=>?_);have hb1:Below wd.heap.size wd W1:=by rw [hW1.out];go_grown
   have x0:W1.cell? ⟨wd.heap.size,0,none⟩=some (.int .i64 d.a.dev):=by rw [hW1.out];go_simp
   have x1:W1.cell? ⟨wd.heap.size,1,none⟩=some (.int .i64 d.a.inc):=by rw [hW1.out];go_simp
   have x2:W1.cell? ⟨wd.heap.size,2,none⟩=some (.int .i64 d.seq):=by rw [hW1.out];go_simp
   have hown1:=ownsRow_below (Au hown hF2 (by omega)) hb1;have hR3:=hR2.below hb1;have hF3:=(hF.again hF2).again (Fr.of_below hb1);have Xy:=hF3.size;clear hW1 hb1 hown hR2 hF2 hRd hF HE HG;go_wp2_with (at_builtin;go_loud (refine wpList_append_own _ rfl _ _ 32 rfl W.heap.size 174 i0 (.agg #[.int .i64 0,.int .i64 0,.int .i64 0]) 3 24 underlying32 hi hz0 hz1 hz2 rfl (by decide) _ _ _ rfl (hown1.alloc _) ⟨W1.heap.size,0,none⟩ 1 1 [.int .i64 d.a.dev,.int .i64 d.a.inc,.int .i64 d.seq] rfl rfl (NP W1 d _) (by simp [Value.oneCell']) (by unfold maxLen;omega) (by omega) (by simp;omega) ?_))
   intro v' w5 hown5 hg5 _;rw [pz] at hown5;have hR5:=(hR3.below ((Below.refl _ _).alloc (Nat.le_refl _) _)).grown hg5 (fun g hg=>by have:=(hown1.lt g hg).1;omega);have hF5:=(hF3.alloc (Obj.cells #[.int .i64 d.a.dev,.int .i64 d.a.inc,.int .i64 d.seq] 174)).grown hg5 (fun g hg=>(hown1.lt g hg).1);go_wp2;go_roundw
   case rel=>exact ⟨j,r2,ls++[d],by go_num,by simp;omega,by omega,by rw [List.length_append];exact hown5,hR5,hF5,HS.out⟩
   case measure=>simp [intOf]
  ·have hend:bT m rr=(rr,[]):=by
        exact z73
   have HQ:Hid (fC r=je (rr,ls)):=by rw [Hid,HV.out,HP.out,hend];simp
   have HE:=Lib.hid (fun (X:World) (h:RdAt X R rr)=>HEr.out rr X h);have hlen:ls.length≤4096:=by omega
   obtain ⟨ao,co,hvo,hdo,hao⟩:=qK hown;have HVO:=Lib.hid hvo;have hFF:=hFx.again hF;by_cases he:rr.e=0
   ·have hm0:m=0:=by
     by_cases h0:m=0
     ·exact h0
     ·exact absurd ⟨by omega,he⟩ hgo
    subst hm0
    refine y48 ?_
    intro q1 q2 HQ2
    have Dv:=fun (X:World) (c:Nat) (h:DotsIn X ao ls)=>mD ao c ls X (by omega) h;by_cases hme:aW ls=0
    ·have HQ3:Hid (fC r=(rr,ls)):=by rw [Hid,HQ2.out,if_pos hme]
     rw [hme] at Dv;have HCK:=Lib.hid Dv;clear HQ HQ2 Dv hme hend hgo he hvo hrl HP HV;rw [HVO.out];go_wp2_with (first
      | (go_at_call 51;(with_reducible refine (HE.out _ hRd).mono ?_);rintro v w2 ⟨rfl,rfl⟩)
      | (go_at_call 92;(with_reducible refine (HCK.out _ _ hdo).mono ?_);rintro v w3 ⟨rfl,hb3⟩;replace hRd:=hRd.below hb3;replace hFF:=hFF.again (Fr.of_below hb3);replace hdo:=hdo.kept hb3))
     go_ret;rw [HQ3.out];exact ⟨ao,co,rfl,hdo,hRd,hFF,fun A off h=>Nat.le_trans hzW (hao A off h)⟩
    ·have HQ3:Hid (fC r=(fV rr (aW ls),[])):=by rw [Hid,HQ2.out,if_neg hme]
     have RN:=fun (X:World) (h:RdAt X R rr)=>uT R rr (aW ls) X h;have hfe:(fV rr (aW ls)).e=aW ls:=by unfold fV;rw [if_pos he]
     have QN:=fun (X:World) (h:RdAt X R (fV rr (aW ls)))=>HEr.out _ X h;rw [hfe] at QN;obtain ⟨me,Qa⟩:∃ me,me=aW ls:=⟨_,rfl⟩;obtain ⟨r3,hr3⟩:∃ r3,r3=fV rr (aW ls):=⟨_,rfl⟩;rw [← hr3] at HQ3 RN QN;rw [← Qa] at Dv RN QN hme;have HCK:=Lib.hid Dv;have HFl:=Lib.hid RN;have HE2:=Lib.hid QN;have q3:(me == 0)=false:=beq_eq_false_iff_ne.2 hme;have q4:(me != 0)=true:=by rw [bne_iff_ne];exact hme
     clear HQ HQ2 Dv hme hend hgo he hvo hrl HP HV RN hfe QN Qa hr3;rw [HVO.out];go_wp2_with (first
      | (go_at_call 51;(with_reducible refine (HE.out _ hRd).mono ?_);rintro v w2 ⟨rfl,rfl⟩)
      | (go_at_call 92;(with_reducible refine (HCK.out _ _ hdo).mono ?_);rintro v w3 ⟨rfl,hb3⟩;replace hRd:=hRd.below hb3;replace hFF:=hFF.again (Fr.of_below hb3);replace hdo:=hdo.kept hb3)
      | (go_at_call 93;(with_reducible refine (HFl.out _ hRd).mono ?_);rintro v w4 ⟨rfl,hR4,hF4⟩;replace hFF:=hFF.again hF4;clear hRd)
      | (go_at_call 51;(with_reducible refine (HE2.out _ hR4).mono ?_);rintro v w5 ⟨rfl,rfl⟩))
     go_ret;rw [HQ3.out];exact ⟨none,0,rfl,Or.inl rfl,hR4,hFF,fun A off h=>by cases h⟩
   ·refine y57 ?_
    intro q1 q2 HQ3
    clear HQ hend hgo he hvo hrl HP HV
    by_cases h0:0<m
    ·have d1:=decide_eq_true h0
     have d2:decide ((0:Int)<(m:Int))=true:=decide_eq_true (by omega)
     exact z99
    ·have d1:=decide_eq_false h0
     have d2:decide ((0:Int)<(m:Int))=false:=decide_eq_false (by omega)
     exact z99
/-- n events, one behind the other, till an error -/
def kz:Nat→Rd→Rd×List Ev
 | 0,r=>(r,[])
 | n+1,r=>if r.e=0 then ((kz n (rEv r).1).1,(rEv r).2 :: (kz n (rEv r).1).2) else (r,[])
theorem Ae:∀ (n:Nat) (r:Rd),(kz n r).1.b.length≤r.b.length
 | 0,r=>Nat.le_refl _
 | n+1,r=>by
   unfold kz;split
   ·exact Nat.le_trans (Ae n _) (EY r)
   ·exact Nat.le_refl _
theorem Af {m:Nat} {r:Rd} (h:r.e≠0):kz m r=(r,[]):=by
 cases m with
 | zero=>rfl
 | succ m=>unfold kz;rw [if_neg h]
theorem xk {m:Nat} {r:Rd} (h:r.e=0):kz (m+1) r=((kz m (rEv r).1).1,(rEv r).2 :: (kz m (rEv r).1).2):=by
 rw [kz,if_pos h]
theorem DT:∀ (n:Nat) (r:Rd),(bT n r).2.length≤n
 | 0,r=>Nat.le_refl _
 | n+1,r=>by
   unfold bT;split
   ·have:=DT n (eY r).1
    simp only [List.length_cons];omega
   ·simp
theorem uz (r:Rd):(fC r).2.length≤4096:=by
 have h:=DT (bg 4096 r).2 (bg 4096 r).1;have h2:=(bf 4096 r).2;unfold fC je;split
 ·split
  ·omega
  ·simp
 ·simp
theorem xq {w:World} {base:Nat} {e:TypeId} {size:Nat} {v:Value} {n:Nat} {xs:List Value} (h:w.ownsRow base e size v n xs):∃ a c,v=.slice a n c:=by
 rcases h.2 with ⟨rfl,hn⟩ | ⟨g,cap,cur,rfl,_⟩
 ·exact ⟨none,0,by rw [hn]⟩
 ·exact ⟨_,_,rfl⟩
theorem jK {w:World} {A off:Nat} {l:List Dot} (h:DotsIn w (some ⟨A,off,none⟩) l) (hl:l≠[]):A<w.heap.size:=by
 rcases h with h | ⟨A',off',he,h⟩
 ·exact absurd h hl
 ·cases he
  exact World.block_lt_of_cell? w _ (h.dev 0 (List.length_pos_iff.2 hl))
theorem DR (r:Rd):EvSmall (rEv r).2:=by
 have h0:EvSmall ev0:=by constructor <;> exact Nat.zero_le _
 unfold rEv BP;split
 ·split
  ·rename_i h;exact uK h
  ·exact h0
 ·exact h0
end Go.Proofs.YtepkclldbkhanaaGreat
