/- Bytes of a frame with one byte changed are no frame: plain laws. Conditions: a body of at most 2^20 bytes. -/
import Derived.Test.YtepkclldbkhanaaGreatVGet
import Derived.Test.YtepkclldbkhanaaGreatTab
import Derived.Test.YtepkclldbkhanaaGreatCanA
import Derived.Test.YtepkclldbkhanaaGreatAt
import Derived.Test.YtepkclldbkhanaaGreatCrc
import Derived.Test.YtepkclldbkhanaaGreatRead
set_option linter.unusedSimpArgs false
set_option linter.unusedVariables false
set_option linter.unnecessarySimpa false
set_option maxHeartbeats 16000000
set_option maxRecDepth 100000
open Go.Proofs.Tryz
namespace Go.Proofs.YtepkclldbkhanaaGreat
/-- the bytes of a number are the only ones that are read as it -/
theorem vX:∀ (l:Bytes) (j m n k:Nat),j≤9→dN j m l=(n,k,0)→∃ q,n=m+q * 128 ^ j∧k=j+(aS q).length∧l.take (k - j)=aS q∧(0<j→0<q)
 | [],j,m,n,k,_,h=>by simp [dN] at h
 | c :: r,j,m,n,k,hj,h=>by
   unfold dN at h;split at h
   ·simp at h
   ·rename_i h1
    have hc:=c.toNat_lt;split at h
    ·rename_i h2
     simp only [Prod.mk.injEq,and_true] at h;obtain ⟨hn,hk⟩:=h;refine ⟨c.toNat,?_,?_,?_,fun h0=>?_⟩
     ·rw [← hn,Nat.mod_eq_of_lt h2]
     ·rw [jE _ h2,← hk];rfl
     ·rw [jE _ h2,← hk,show j+1 - j=1 by omega];simp
     ·by_cases hz:c.toNat=0
      ·exact absurd (Or.inl ⟨h0,hz⟩) h1
      ·omega
    ·rename_i h2
     have hj9:j≠9:=fun e=>h1 (Or.inr ⟨e,by omega⟩);obtain ⟨q,hn,hk,ht,hq⟩:=vX r (j+1) _ n k (by omega) h;have hq0:=hq (by omega);have hb:¬ (c.toNat % 128+128 * q)<128:=by omega
     have e1:(c.toNat % 128+128 * q) % 128=c.toNat % 128:=by omega
     have e2:(c.toNat % 128+128 * q) / 128=q:=by omega
     have e3:UInt8.ofNat (c.toNat % 128+128)=c:=by
      apply UInt8.toNat_inj.1;rw [UInt8.toNat_ofNat'];omega
     refine ⟨c.toNat % 128+128 * q,?_,?_,?_,fun _=>by omega⟩
     ·rw [hn,Nat.pow_succ,Nat.add_mul,← Nat.add_assoc]
      congr 1
      rw [Nat.mul_comm 128 q,Nat.mul_assoc,Nat.mul_comm 128]
     ·rw [nG _ hb,e2,List.length_cons,hk];omega
     ·have e4:k - j=(k - (j+1))+1:=by omega
      rw [nG _ hb,e1,e2,e3,e4,List.take_succ_cons,ht]
theorem xI {l:Bytes} {n k:Nat} (h:bP l=(n,k,0)):k=(aS n).length∧l.take k=aS n:=by
 obtain ⟨q,hn,hk,ht,_⟩:=vX l 0 0 n k (by omega) h;simp at hn hk ht;subst hn;exact ⟨hk,ht⟩
theorem DX:∀ (l m:Bytes),l.length=m.length→fF l=fF m→l=m
 | [],[],_,_=>rfl
 | [],_ :: _,h,_=>by simp at h
 | _ :: _,[],h,_=>by simp at h
 | a :: l,b :: m,h,h2=>by
   simp only [fF] at h2;have ha:=a.toNat_lt;have hb:=b.toNat_lt;have e1:a.toNat=b.toNat:=by omega
   have e2:=DX l m (by simpa using h) (by omega);rw [UInt8.toNat_inj.1 e1,e2]
theorem Qm {c:Bytes} (h:(nV c).2=0):∃ n k,bP c=(n,k,0)∧k+n+4=c.length∧n≤1048576∧fF ((c.drop (k+n)).take 4)=gX ((c.drop k).take n):=by
 obtain ⟨n,k,e,hg⟩:∃ n k e,bP c=(n,k,e):=⟨_,_,_,rfl⟩;unfold nV fG at h;rw [hg] at h;simp only at h;by_cases he:e=0
 ·subst he
  simp only [if_true] at h;by_cases h1:1048576<n
  ·rw [if_pos h1] at h;simp at h
  ·rw [if_neg h1] at h
   by_cases h2:c.length<k+n+4
   ·rw [if_pos h2] at h;simp at h
   ·rw [if_neg h2] at h
    by_cases h3:fF ((c.drop (k+n)).take 4)=gX ((c.drop k).take n)
    ·rw [if_pos h3] at h
     simp only [if_true] at h;by_cases h4:k+n+4<c.length
     ·rw [if_pos h4] at h;simp at h
     ·exact ⟨n,k,hg,by omega,by omega,h3⟩
    ·rw [if_neg h3] at h;simp at h
 ·rw [if_neg he] at h
  simp [he] at h
end Go.Proofs.YtepkclldbkhanaaGreat
/- What is read has just the bytes that it is packed to: plain laws. Conditions: none. -/
namespace Go.Proofs.YtepkclldbkhanaaGreat
theorem z87 {p : Prop} (h : p := by rename_i h0; cases h; exact absurd he h0) : p := h
theorem fB {most:Nat} {r x:Rd} {n:Nat} (h:bg most r=(x,n)) (he:x.e=0):r.e=0∧r.b=aS n++x.b:=by
 have hfit:=kV r.b;unfold bg at h;split at h
 ·rename_i h0
  split at h
  ·rename_i h1
   split at h
   ·cases h;simp at he
   ·simp only [Prod.mk.injEq] at h
    obtain ⟨rfl,rfl⟩:=h;obtain ⟨m,k,e,hg⟩:∃ m k e,bP r.b=(m,k,e):=⟨_,_,_,rfl⟩;rw [hg] at h1 ⊢;simp only at h1 ⊢;subst h1;have:=(xI hg).2;exact ⟨h0,by rw [← this,List.take_append_drop]⟩
  ·rename_i h1;cases h;exact absurd he h1
 ·exact z87
theorem MH (n:Nat):Lib.zigzag (jO n)=n:=by
 unfold jO Lib.zigzag;split <;> split <;> omega
theorem Ns {most:Int} {r x:Rd} {v:Int} (h:iq most r=(x,v)) (he:x.e=0):r.e=0∧r.b=yP v++x.b:=by
 have hfit:=kV r.b;unfold iq at h;split at h
 ·rename_i h0
  split at h
  ·rename_i h1
   split at h
   ·cases h;simp at he
   ·simp only [Prod.mk.injEq] at h
    obtain ⟨rfl,rfl⟩:=h;obtain ⟨m,k,e,hg⟩:∃ m k e,bP r.b=(m,k,e):=⟨_,_,_,rfl⟩;rw [hg] at h1 ⊢;simp only at h1 ⊢;subst h1;have:=(xI hg).2;refine ⟨h0,?_⟩;unfold yP;rw [MH,← this,List.take_append_drop]
  ·rename_i h1;cases h;exact absurd he h1
 ·exact z87
theorem nI {most:Nat} {r x:Rd} {t:Bytes} (h:aN most r=(x,t)) (he:x.e=0):r.e=0∧r.b=gG t++x.b:=by
 obtain ⟨y,n,hn⟩:∃ y n,bg most r=(y,n):=⟨_,_,rfl⟩;unfold aN at h;rw [hn] at h;simp only at h;split at h
 ·rename_i h0
  split at h
  ·rename_i h1
   split at h
   ·cases h;simp at he
   ·rename_i h2
    simp only [Prod.mk.injEq] at h;obtain ⟨rfl,rfl⟩:=h;have:=(fB hn h1).2;refine ⟨h0,?_⟩;unfold gG;rw [this,List.length_take,Nat.min_eq_left (by omega),List.append_assoc,List.take_append_drop]
  ·rename_i h1;cases h;exact absurd he h1
 ·exact z87
theorem IU:∀ c:Fin 32,fD (iY c.val)=c.val:=by decide +kernel
theorem GH {r x:Rd} {fl:List Bool} (h:dB r=(x,fl)) (he:x.e=0):r.e=0∧(∃ b0 b1 b2 b3 b4,fl=[b0,b1,b2,b3,b4])∧r.b=UInt8.ofNat (fD fl) :: x.b:=by
 unfold dB at h;split at h
 ·rename_i h0
  split at h
  ·cases h;simp at he
  ·rename_i h1
   split at h
   ·rename_i h2
    simp only [Prod.mk.injEq] at h;obtain ⟨rfl,rfl⟩:=h;refine ⟨h0,⟨_,_,_,_,_,rfl⟩,?_⟩
    cases hb:r.b with
    | nil=>exact absurd hb h1
    | cons c s =>
      rw [hb] at h2;simp only [List.headD_cons,List.drop_succ_cons,List.drop_zero] at h2 ⊢;have:=IU ⟨c.toNat,h2⟩;simp only at this;rw [this];simp
   ·cases h;simp at he
 ·exact z87
theorem DU {r x:Rd} {d:Dot} (h:eY r=(x,d)) (he:x.e=0):r.e=0∧bJ d=true∧r.b=qc d++x.b:=by
 obtain ⟨y1,a,h1⟩:∃ x a,bg 63 r=(x,a):=⟨_,_,rfl⟩;obtain ⟨y2,b,h2⟩:∃ y b,bg 1048576 y1=(y,b):=⟨_,_,rfl⟩;obtain ⟨y3,c,h3⟩:∃ z c,bg 4294967296 y2=(z,c):=⟨_,_,rfl⟩;rw [EZ r h1 h2 h3] at h;split at h
 ·rename_i h0
  split at h
  ·rename_i hok
   simp only [Prod.mk.injEq] at h;obtain ⟨rfl,rfl⟩:=h;obtain ⟨e2,b3⟩:=fB h3 he;obtain ⟨e1,b2⟩:=fB h2 e2;obtain ⟨e0,b1⟩:=fB h1 e1;refine ⟨e0,hok,?_⟩;unfold qc;rw [if_pos hok,b1,b2,b3];simp
  ·simp only [Prod.mk.injEq] at h
   obtain ⟨rfl,rfl⟩:=h;unfold fV at he;rw [if_pos h0] at he;simp at he
 ·exact z87
theorem yc {r x:Rd} {s:Stamp} (h:dZ r=(x,s)) (he:x.e=0):r.e=0∧r.b=iP s++x.b:=by
 obtain ⟨y1,a,h1⟩:∃ x a,bg 4398046511104 r=(x,a):=⟨_,_,rfl⟩;obtain ⟨y2,b,h2⟩:∃ y b,bg 65535 y1=(y,b):=⟨_,_,rfl⟩;obtain ⟨y3,c,h3⟩:∃ z c,bg 63 y2=(z,c):=⟨_,_,rfl⟩;have f1:=(bf 4398046511104 r).2;have f2:=(bf 65535 y1).2;have f3:=(bf 63 y2).2;rw [h1] at f1;rw [h2] at f2;rw [h3] at f3;simp only at f1 f2 f3;rw [sH r h1 h2 h3] at h;split at h
 ·simp only [Prod.mk.injEq] at h
  obtain ⟨rfl,rfl⟩:=h;obtain ⟨e2,b3⟩:=fB h3 he;obtain ⟨e1,b2⟩:=fB h2 e2;obtain ⟨e0,b1⟩:=fB h1 e1;refine ⟨e0,?_⟩;have hok:fQ ⟨a,b,c⟩=true:=by simp [fQ];omega
  unfold iP;rw [if_pos hok,b1,b2,b3];simp
 ·exact z87
theorem KE (d:Dot) (l:List Dot):eG (d :: l)=qc d++eG l:=by simp [eG]
theorem qB:∀ (n:Nat) {r x:Rd} {l:List Dot},bT n r=(x,l)→x.e=0→r.e=0∧l.length=n∧r.b=eG l++x.b
 | 0,r,x,l,h,he=>by
   rw [JM] at h
   cases h
   exact ⟨he,rfl,by simp [eG]⟩
 | n+1,r,x,l,h,he=>by
   by_cases h0:r.e=0
   ·obtain ⟨r2,d,hd⟩:∃ r2 d,eY r=(r2,d):=⟨_,_,rfl⟩
    obtain ⟨r3,l3,hl⟩:∃ r3 l3,bT n r2=(r3,l3):=⟨_,_,rfl⟩;rw [lh h0,hd] at h;simp only [hl,Prod.mk.injEq] at h;obtain ⟨rfl,rfl⟩:=h;obtain ⟨e2,hn,hb⟩:=qB n hl he;obtain ⟨_,_,hb2⟩:=DU hd e2;exact ⟨h0,by simp [hn],by rw [hb2,hb,KE,List.append_assoc]⟩
   ·rw [sN h0] at h
    cases h
    exact absurd he h0
theorem JI {r x:Rd} {e ei:Ev} (h:fU r=x) (hw:bY e r=ei) (hk:e.kind=1) (he:x.e=0):r.e=0∧r.b=xN ei++x.b:=by
 obtain ⟨r1,v1,g1⟩:∃ r1 v1,aN 256 r=(r1,v1):=⟨_,_,rfl⟩;obtain ⟨r2,v2,g2⟩:∃ r2 v2,aN 256 r1=(r2,v2):=⟨_,_,rfl⟩;obtain ⟨r3,v3,g3⟩:∃ r3 v3,aN 256 r2=(r3,v3):=⟨_,_,rfl⟩;obtain ⟨r4,v4,g4⟩:∃ r4 v4,aN 1024 r3=(r4,v4):=⟨_,_,rfl⟩;obtain ⟨r5,v5,g5⟩:∃ r5 v5,iq 1099511627776 r4=(r5,v5):=⟨_,_,rfl⟩;obtain ⟨r6,v6,g6⟩:∃ r6 v6,bg 1099511627776 r5=(r6,v6):=⟨_,_,rfl⟩;obtain ⟨r7,v7,g7⟩:∃ r7 v7,bg 1099511627776 r6=(r7,v7):=⟨_,_,rfl⟩;have h7:r7=x:=by rw [← h];unfold fU;simp only [g1,g2,g3,g4,g5,g6,g7]
 subst h7;obtain ⟨e6,b7⟩:=fB g7 he;obtain ⟨e5,b6⟩:=fB g6 e6;obtain ⟨e4,b5⟩:=Ns g5 e5;obtain ⟨e3,b4⟩:=nI g4 e4;obtain ⟨e2,b3⟩:=nI g3 e3;obtain ⟨e1,b2⟩:=nI g2 e2;obtain ⟨e0,b1⟩:=nI g1 e1;refine ⟨e0,?_⟩;have hei:ei={ e with key:=⟨mkS v1,mkS v2,mkS v3⟩,ck:={ e.ck with value:=mkS v4,expiry:=v5,creation:=v6,access:=v7 } }:=by rw [← hw];unfold bY;simp only [g1,g2,g3,g4,g5,g6,g7]
 rw [hei];unfold xN;simp only [hk,if_true,lG,Int.toNat_natCast];rw [b1,b2,b3,b4,b5,b6,b7];simp
theorem Pv {r x:Rd} {e:Ev} (h:rEv r=(x,e)) (he:x.e=0):r.e=0∧eF e=true∧r.b=evB e++x.b:=by
 obtain ⟨y,g,hg⟩:∃ y g,tX r=(y,g):=⟨_,_,rfl⟩;unfold rEv BP at h;rw [hg] at h;simp only at h;split at h
 ·split at h
  ·rename_i hok
   simp only [Prod.mk.injEq] at h;obtain ⟨rfl,rfl⟩:=h;obtain ⟨ra,d,h1⟩:∃ a d,eY r=(a,d):=⟨_,_,rfl⟩;obtain ⟨rb,s,h2⟩:∃ b s,dZ ra=(b,s):=⟨_,_,rfl⟩;obtain ⟨rf,fl,h3⟩:∃ f fl,dB rb=(f,fl):=⟨_,_,rfl⟩;obtain ⟨rn,k,h4⟩:∃ n k,bg 64 rf=(n,k):=⟨_,_,rfl⟩;obtain ⟨ro,l,h5⟩:∃ o l,bT k rn=(o,l):=⟨_,_,rfl⟩;rw [FM r h1 h2 h3 h4 h5] at hg;have chain:ro.e=0→r.e=0∧(∃ b0 b1 b2 b3 b4,fl=[b0,b1,b2,b3,b4])∧l.length=k∧r.b=qc d++(iP s++(UInt8.ofNat (fD fl) :: (aS k++(eG l++ro.b)))):=fun e5=>by
        obtain ⟨e4,hl,b5⟩:=qB k h5 e5;obtain ⟨e3,b4⟩:=fB h4 e4;obtain ⟨e2,hf,b3⟩:=GH h3 e3;obtain ⟨e1,b2⟩:=yc h2 e2;obtain ⟨e0,_,b1⟩:=DU h1 e1;exact ⟨e0,hf,hl,by rw [b1,b2,b3,b4,b5]⟩
   split at hg
   ·rename_i hf0
    simp only [Prod.mk.injEq] at hg;obtain ⟨rfl,rfl⟩:=hg;obtain ⟨_,⟨b0,b1,b2,b3,b4,hf⟩,_⟩:=chain he;rw [hf] at hf0;simp at hf0
   ·split at hg
    ·rename_i hk
     simp only [Prod.mk.injEq] at hg;obtain ⟨h6,h7⟩:=hg;obtain ⟨e5,b6⟩:=JI h6 h7 rfl he;obtain ⟨e0,⟨b0,b1,b2,b3,b4,hf⟩,hl,hb⟩:=chain e5;refine ⟨e0,hok,?_⟩;subst hf;have hb0:b0=true:=by simpa [iQ] using hk
     subst hb0;have hev:BO g=qc d++iP s++[UInt8.ofNat (fD [true,b1,b2,b3,b4])]++aS l.length++eG l:=by
      rw [← h7];rfl
     unfold evB;rw [hb,b6,hev,hl];simp
    ·rename_i hk
     simp only [Prod.mk.injEq] at hg;obtain ⟨rfl,h7⟩:=hg;obtain ⟨e0,⟨b0,b1,b2,b3,b4,hf⟩,hl,hb⟩:=chain he;refine ⟨e0,hok,?_⟩;subst hf;have hb0:b0=false:=by simpa [iQ] using hk
     subst hb0;have hev:BO g=qc d++iP s++[UInt8.ofNat (fD [false,b1,b2,b3,b4])]++aS l.length++eG l:=by
      rw [← h7];rfl
     have het:xN g=[]:=by rw [← h7];rfl
     unfold evB;rw [hb,hev,het,hl];simp
  ·cases h;simp at he
 ·exact z87
theorem Gz {r x:Rd} {l:List Dot} (h:fC r=(x,l)) (he:x.e=0):r.e=0∧r.b=lC l++x.b:=by
 obtain ⟨y,n,h1⟩:∃ y n,bg 4096 r=(y,n):=⟨_,_,rfl⟩;obtain ⟨z,m,h2⟩:∃ z m,bT n y=(z,m):=⟨_,_,rfl⟩;unfold fC je at h;simp only [h1,h2] at h;split at h
 ·rename_i h0
  split at h
  ·simp only [Prod.mk.injEq] at h
   obtain ⟨rfl,rfl⟩:=h;obtain ⟨e1,hl,b2⟩:=qB n h2 he;obtain ⟨e0,b1⟩:=fB h1 e1;refine ⟨e0,?_⟩;unfold lC;rw [b1,b2,hl,List.append_assoc]
  ·rename_i hm
   simp only [Prod.mk.injEq] at h;obtain ⟨rfl,rfl⟩:=h;unfold fV at he;rw [if_pos h0] at he;exact absurd he hm
 ·exact z87
theorem DN:∀ (n:Nat) {r x:Rd} {l:List Ev},kz n r=(x,l)→x.e=0→r.e=0∧l.length=n∧r.b=pY l++x.b
 | 0,r,x,l,h,he=>by
   unfold kz at h
   cases h
   exact ⟨he,rfl,by simp [pY]⟩
 | n+1,r,x,l,h,he=>by
   by_cases h0:r.e=0
   ·obtain ⟨r2,d,hd⟩:∃ r2 d,rEv r=(r2,d):=⟨_,_,rfl⟩
    obtain ⟨r3,l3,hl⟩:∃ r3 l3,kz n r2=(r3,l3):=⟨_,_,rfl⟩;rw [xk h0,hd] at h;simp only [hl,Prod.mk.injEq] at h;obtain ⟨rfl,rfl⟩:=h;obtain ⟨e2,hn,hb⟩:=DN n hl he;obtain ⟨_,_,hb2⟩:=Pv hd e2;exact ⟨h0,by simp [hn],by rw [hb2,hb];simp [pY]⟩
   ·rw [Af h0] at h
    cases h
    exact absurd he h0
end Go.Proofs.YtepkclldbkhanaaGreat
/- A frame that is read has just the bytes that it is packed to. Conditions: none. -/
namespace Go.Proofs.YtepkclldbkhanaaGreat
open Go.RowKit
theorem KA {l b:Bytes} (h:nV l=(b,0)):dw b=l:=by
 obtain ⟨n,k,hg,hlen,hn,hsum⟩:=Qm (c:=l) (by rw [h]);have hb:b=(l.drop k).take n:=by
  unfold nV fG at h;rw [hg] at h;simp only [if_true,if_neg (show ¬ 1048576<n by omega),if_neg (show ¬ l.length<k+n+4 by omega),if_pos hsum,if_neg (show ¬ k+n+4<l.length by omega)] at h;simp only [Prod.mk.injEq,and_true] at h;exact h.symm
 have hbl:b.length=n:=by rw [hb];simp;omega
 have hq:(l.drop (k+n)).take 4=le4 (gX b):=by
  refine DX _ _ ?_ ?_
  ·simp [le4];omega
  ·rw [hsum,← hb,DW _ (ny b)]
 have h4:(l.drop (k+n)).take 4=l.drop (k+n):=List.take_of_length_le (by simp;omega);unfold dw;rw [hbl,← (xI hg).2,← hq,h4,hb,List.append_assoc];have e1:List.take n (List.drop k l)++List.drop (k+n) l=List.drop k l:=by
  rw [← List.drop_drop,List.take_append_drop]
 rw [e1,List.take_append_drop]
end Go.Proofs.YtepkclldbkhanaaGreat
/- A snapshot's bytes, plainly. Conditions: none. -/
namespace Go.Proofs.YtepkclldbkhanaaGreat
/-- what a frame's body is read as: the reader's end, device, life, stamp, the map's bytes -/
def ou (body:Bytes):Rd×Nat×Nat×Stamp×Bytes :=
 let a:=bg 63 ⟨body,0⟩
 let b:=bg 1048576 a.1
 let c:=dZ b.1
 let t:=aN 1048576 c.1
 (t.1,a.2,b.2,c.2,t.2)
/-- a snapshot's body -/
def ckB (dev inc:Nat) (st:Stamp) (full:Bytes):Bytes:=aS dev++aS inc++iP st++gG full
theorem Nq {r x:Rd} {s:Stamp} (h:dZ r=(x,s)) (he:x.e=0):fQ s=true:=by
 obtain ⟨y1,a,h1⟩:∃ x a,bg 4398046511104 r=(x,a):=⟨_,_,rfl⟩;obtain ⟨y2,b,h2⟩:∃ y b,bg 65535 y1=(y,b):=⟨_,_,rfl⟩;obtain ⟨y3,c,h3⟩:∃ z c,bg 63 y2=(z,c):=⟨_,_,rfl⟩;have f1:=(bf 4398046511104 r).2;have f2:=(bf 65535 y1).2;have f3:=(bf 63 y2).2;rw [h1] at f1;rw [h2] at f2;rw [h3] at f3;simp only at f1 f2 f3;rw [sH r h1 h2 h3] at h;split at h
 ·simp only [Prod.mk.injEq] at h
  obtain ⟨rfl,rfl⟩:=h;simp [fQ];omega
 ·exact z87
theorem IK {body full:Bytes} {r:Rd} {dev inc:Nat} {st:Stamp} (h:ou body=(r,dev,inc,st,full)) (he:eX r=0) :
 body=ckB dev inc st full∧dev≤63∧inc≤1048576∧fQ st=true∧full.length≤1048576:=by
 obtain ⟨r1,n1,h1⟩:∃ x n,bg 63 ⟨body,0⟩=(x,n):=⟨_,_,rfl⟩;obtain ⟨r2,n2,h2⟩:∃ x n,bg 1048576 r1=(x,n):=⟨_,_,rfl⟩;obtain ⟨r3,s3,h3⟩:∃ x n,dZ r2=(x,n):=⟨_,_,rfl⟩;obtain ⟨r4,t4,h4⟩:∃ x n,aN 1048576 r3=(x,n):=⟨_,_,rfl⟩;have f1:=(bf 63 ⟨body,0⟩).2;have f2:=(bf 1048576 r1).2;have f4:=(bV 1048576 r3).2;rw [h1] at f1;rw [h2] at f2;rw [h4] at f4;have hxx:ou body=(r4,n1,n2,s3,t4):=by unfold ou;simp only [h1,h2,h3,h4]
 rw [hxx] at h;simp only [Prod.mk.injEq] at h;obtain ⟨rfl,rfl,rfl,rfl,rfl⟩:=h;have h50:r4.e=0∧r4.b=[]:=by
  unfold eX at he;by_cases h:r4.e=0
  ·rw [if_pos h] at he
   by_cases hb:0<r4.b.length
   ·rw [if_pos hb] at he;cases he
   ·exact ⟨h,List.length_eq_zero_iff.1 (by omega)⟩
  ·rw [if_neg h] at he;exact absurd he h
 obtain ⟨e3,b4⟩:=nI h4 h50.1;have hst:=Nq h3 e3;obtain ⟨e2,b3⟩:=yc h3 e3;obtain ⟨e1,b2⟩:=fB h2 e2;obtain ⟨_,b1⟩:=fB h1 e1;simp only at b1;refine ⟨?_,f1,f2,hst,f4⟩;rw [b1,b2,b3,b4,h50.2,List.append_nil];simp only [ckB,List.append_assoc]
end Go.Proofs.YtepkclldbkhanaaGreat
/- checkpoint.Bytes of a snapshot that may be. Conditions: at most 2^20 bytes. -/
namespace Go.Proofs.YtepkclldbkhanaaGreat
open Go.RowKit
abbrev snV (d i:Int) (s:Stamp) (v:Value):Value:=.agg #[.int .i64 d,.int .i64 i,.int .i64 s.wall,.int .i64 s.count,.int .i64 s.dev,v]
abbrev tN (d i:Int) (s:Stamp) (v:Value):List Value:=[.int .i64 d,.int .i64 i,.int .i64 s.wall,.int .i64 s.count,.int .i64 s.dev,v]
abbrev Js (s:Stamp):List Value:=[.int .i64 s.wall,.int .i64 s.count,.int .i64 s.dev]
theorem zH (d i:Int) (s:Stamp) (v:Value) (w:World) (t:TypeId):(w.alloc (Obj.cells #[.int .i64 d,.int .i64 i,.int .i64 s.wall,.int .i64 s.count,.int .i64 s.dev,v] t)).rangeAt w.heap.size 0 (tN d i s v):=by
 intro j u hu;rw [Nat.zero_add,World.cell?_alloc_new];exact (by simpa using hu)
theorem zn {d i:Int} {s:Stamp} {v:Value} {w:World} {b:Nat} (h:w.rangeAt b 0 (tN d i s v)):w.rangeAt b 2 (Js s):=fun j u hu=>by
 match j,hu with
 | 0,hu=>cases hu;exact h 2 _ rfl
 | 1,hu=>cases hu;exact h 3 _ rfl
 | 2,hu=>cases hu;exact h 4 _ rfl
theorem BytesIn.hold {S:Nat→Prop} {w0 w:World} {B:Nat} {l m:Bytes} {a:Option Addr} (h:Hold S w0 B w l) (hb:BytesIn w0 a m) (hA:∀ A off,a=some ⟨A,off,none⟩→m≠[]→¬ S A):BytesIn w a m:=by
 rcases hb with hb | ⟨A,off,rfl,hb⟩
 ·exact Or.inl hb
 ·exact Or.inr ⟨A,off,rfl,fun j hj=>h.kept (hb j hj) (hA A off rfl (by intro e;subst e;simp at hj))⟩
theorem Ce {w:World} {A off:Nat} {m:Bytes} (hb:BytesIn w (some ⟨A,off,none⟩) m) (hne:m≠[]):A<w.heap.size:=by
 rcases hb with hb | ⟨A',off',e,hb⟩
 ·exact absurd hb hne
 ·cases e
  exact World.block_lt_of_cell? w _ (hb 0 (List.length_pos_iff.2 hne))
theorem IJ (d i:Nat) (s:Stamp) (v:Value) (w:World) (hd:d≤63) (hi:i≤1048576) (hs:fQ s=true) :
 Calls prog 28 #[snV d i s v] w fun e w'=>e=.returned (.bool true)∧Below w.heap.size w w':=by
 have HC0:=fun (W:World)=>oq s W;rw [hs] at HC0;have HC:=Lib.hid HC0;have d0:decide ((0:Int)≤(d:Int))=true:=decide_eq_true (by omega);have d1:decide ((d:Int)<64)=true:=decide_eq_true (by omega);have d2:decide ((0:Int)≤(i:Int))=true:=decide_eq_true (by omega);have d3:decide ((i:Int)≤1048576)=true:=decide_eq_true (by omega);clear hs HC0;go_enter func28,ntmps28;go_upto_region 1 with fail
 refine au (fun W hW=>?_);have hb:Below w.heap.size w W:=by rw [hW.out];go_grown
 have hR:W.rangeAt w.heap.size 0 (tN d i s v):=by rw [hW.out];exact zH _ _ _ _ _ _
 have c0:W.cell? ⟨w.heap.size,0,none⟩=some (.int .i64 d):=hR 0 _ rfl;have c1:W.cell? ⟨w.heap.size,1,none⟩=some (.int .i64 i):=hR 1 _ rfl;have hS:=zn hR;clear hW hR;go_wp2_with (first
  | ((with_reducible refine ah 25 _ w.heap.size 2 (Js s) (iO s) rfl _ underlying25 rfl (by kernel_rfl) hS ?_ rfl ?_);exact rfl)
  | (go_at_call 64;(with_reducible refine (HC.out _).mono ?_);rintro e w1 ⟨rfl,hb1⟩))
 all_goals
  go_ret;exact ⟨rfl,below2 hb hb1⟩
theorem yJ (d i:Nat) (s:Stamp) {m:Nat} {b:MB} {t:MS} (w:World) (h:MpIn w m b t) (hv:MInv t) (hnd:(t.K.map (·.1.dot)).Nodup) (hcx:t.ctx.length≤4096) (hdd:t.dead.length≤65536) (hfl:(nU t).length≤1048576)
 (hd:d≤63) (hi:i≤1048576) (hs:fQ s=true) (hbl:(ckB d i s (nU t)).length≤1048576) :
 Calls prog 7 #[snV d i s (.pointer (some ⟨m,0,none⟩))] w (MF (dw (ckB d i s (nU t))) w):=by
 have HR:=Lib.hid (fun (X:World)=>IJ d i s (.pointer (some ⟨m,0,none⟩)) X hd hi hs);have HF:=Lib.hid (fun (X:World) (hX:MpIn X m b t)=>KT X hX hv hnd hcx hdd hfl);have hcb:(ckB d i s (nU t))=aS d++aS i++iP s++gG (nU t):=rfl;have lens:(aS d++aS i++iP s++gG (nU t)).length≤1048576:=hbl;simp only [List.length_append] at lens;have hne:ckB d i s (nU t)≠[]:=by
  rw [hcb];have:=MV d;simp [this]
 have HL:=Lib.hid hcb;clear hcb hv hnd hcx hdd hs;generalize nU t=full at *;generalize hbody:ckB d i s full=body at *;clear hbody;go_enter func7,ntmps7;go_upto_region 1 with fail
 refine au (fun W hW=>?_);have hbt:Below w.heap.size w W:=by rw [hW.out];go_grown
 have hR:W.rangeAt w.heap.size 0 (tN d i s (.pointer (some ⟨m,0,none⟩))):=by rw [hW.out];exact zH _ _ _ _ _ _
 have hzW:w.heap.size<W.heap.size:=by rw [hW.out];simp
 have hm:=h.kept_w hbt;clear hW h;have c5:W.cell? ⟨w.heap.size,5,none⟩=some (.pointer (some ⟨m,0,none⟩)):=hR 5 _ rfl;go_upto_region 5 with (first
  | ((with_reducible refine ah 28 _ w.heap.size 0 (tN d i s (.pointer (some ⟨m,0,none⟩))) (snV d i s (.pointer (some ⟨m,0,none⟩))) rfl _ underlying28 rfl (by kernel_rfl) hR ?_ rfl ?_);exact rfl)
  | (go_at_call 28;(with_reducible refine (HR.out _).mono ?_);rintro e w1 ⟨rfl,hb1⟩))
 replace hR:=aj hR hb1;replace hbt:=below2 hbt hb1;replace hm:=hm.kept_w hb1;have hz1:=Nat.lt_of_lt_of_le hzW hb1.size;clear c5 hb1 hzW HR;have c5:w1.cell? ⟨w.heap.size,5,none⟩=some (.pointer (some ⟨m,0,none⟩)):=hR 5 _ rfl;go_upto_region 8 with (go_at_call 29;(with_reducible refine (HF.out _ hm).mono ?_);rintro e w2 ⟨a2,c2,rfl,⟨hB2,hc2⟩,hb2⟩)
 replace hR:=aj hR hb2;replace hbt:=below2 hbt hb2;have hz2:=Nat.lt_of_lt_of_le hz1 hb2.size;clear c5 hb2 hz1 HF hm;go_upto_region 9 with fail
 refine au (fun W4 hW4=>?_);have hb4:Below w2.heap.size w2 W4:=by rw [hW4.out];go_grown
 obtain ⟨B,hBB⟩:∃ B,B=w2.heap.size:=⟨_,rfl⟩;have H0:Hold (fun k=>k=B) W4 B W4 []:=by
  refine Hold.start ⟨rfl,.slice none 0 0,0,by rw [hW4.out,hBB];exact Array.getElem?_push_size,World.ownsRow_nil _ _ _ _,fun g hg=>by cases hg⟩
 have hAB:∀ A off,a2=some ⟨A,off,none⟩→full≠[]→¬ (A=B):=fun A off e hne=>by
  subst e;have:=Ce hB2 hne;omega
 rw [← hBB] at hz2 ⊢;replace hbt:=below2 hbt hb4;replace hR:=aj hR hb4;replace hB2:=BytesIn.kept hB2 hb4;have hns:¬ (w.heap.size=B):=by omega
 clear hW4 hb4 hBB;have H0d:=H0.drew;have N1:=Lib.hid (show Calls prog 30 #[.pointer (some ⟨B,0,none⟩),.int .u64 d] W4.drew (qQ (fun k=>k=B) W4 B (aS d)) from by have:=yO H0d d (by simp) (by omega);rwa [List.nil_append] at this);have N2:=Lib.hid (fun (X:World) (h:Hold (fun k=>k=B) W4 B X (aS d))=>yO h i (by omega) (by omega));have N3:=Lib.hid (fun (X:World) (h:Hold (fun k=>k=B) W4 B X (aS d++aS i))=>Cb h s (by simp only [List.length_append];omega));have N4:=Lib.hid (fun (X:World) (h:Hold (fun k=>k=B) W4 B X (aS d++aS i++iP s))=>CB h (mkS full) (by simp only [List.length_append];omega) (by rw [lN];omega));have N5:=Lib.hid (fun (X:World) (h:Hold (fun k=>k=B) W4 B X (aS d++aS i++iP s++gG (bl (mkS full))))=>IY h (by rw [show bl (mkS full)=full from rfl];simp only [List.length_append];omega));have c0:W4.cell? ⟨w.heap.size,0,none⟩=some (.int .i64 d):=hR 0 _ rfl;have c1:W4.cell? ⟨w.heap.size,1,none⟩=some (.int .i64 i):=hR 1 _ rfl;have s0:d<9223372036854775808:=by omega
 have s1:i<9223372036854775808:=by omega
 have u0:d<18446744073709551616:=by omega
 have u1:i<18446744073709551616:=by omega
 have g0:IntKind.u64.wrap ((d:Nat):Int)=((d:Nat):Int):=IntWalk.u64_in _ (by omega);have g1:IntKind.u64.wrap ((i:Nat):Int)=((i:Nat):Int):=IntWalk.u64_in _ (by omega);have k0:=H0d.kept c0 hns;have k1:=H0d.kept c1 hns;go_wp2_with fail
 go_region_held3 (fun W'=>W'.cell? ⟨w.heap.size,0,none⟩=some (.int .i64 (d:Nat))∧W'.cell? ⟨w.heap.size,1,none⟩=some (.int .i64 (i:Nat))) (first | exact ⟨k0,k1⟩ | go_keep)
  (first
   | (go_at_call 30;(with_reducible refine N1.out.mono ?_);rintro x wa ⟨rfl,Ha⟩;have k0:=Ha.kept c0 hns;have k1:=Ha.kept c1 hns)
   | (go_at_call 30;(with_reducible refine (N2.out _ Ha).mono ?_);rintro x wb ⟨rfl,Hb⟩;have k0:=Hb.kept c0 hns;have k1:=Hb.kept c1 hns))
 have hSb:=Hb.range (zn hR) hns;clear g0 g1 k0 k1 c0 c1 H0 H0d N1 N2 Ha;go_upto_region 11 with (first
  | ((with_reducible refine ah 25 _ w.heap.size 2 (Js s) (iO s) rfl _ underlying25 rfl (by kernel_rfl) hSb ?_ rfl ?_);exact rfl)
  | (go_at_call 31;(with_reducible refine (N3.out _ Hb).mono ?_);rintro x wc ⟨rfl,Hc⟩))
 have hBc:BytesIn wc a2 full:=BytesIn.hold Hc hB2 hAB;have hcv:=uO hBc full.length c2 (Nat.le_refl _);rw [List.take_length] at hcv;go_upto_region 12 with (go_at_call 32;(with_reducible refine (N4.out _ Hc).mono ?_);rintro x wd ⟨rfl,Hd⟩)
 have hbd:Below w.heap.size w wd:=hbt.trans (Hd.fr.below hbt.size (fun q hq=>by rcases hq with hq | hq <;> omega));have N6:Hid (∀ (X:World) (p:Option Addr) (c:Nat),BytesIn X p body→Calls prog 33 #[.slice none 0 0,.slice p body.length c] X (MF (dw body) X)):=Lib.hid (fun X p c hX=>F6 none p 0 c [] body X (by simp) hbl hne (Or.inl rfl) hX);rw [show bl (mkS full)=full from rfl] at N5 Hd;rw [← HL.out] at N5 Hd;clear N3 N4 Hc Hb hcv hBc hSb hR hAB hB2;go_wp2_with (first
  | (go_at_call 34;(with_reducible refine (N5.out _ Hd).mono ?_);rintro x we ⟨v,rfl,hown,hbe⟩;obtain ⟨ab,cb,rfl,Hw⟩:=dJ hown)
  | (go_at_call 33;(with_reducible refine (N6.out _ _ _ Hw).mono ?_);rintro x wf ⟨v2,rfl,hown2,hbf⟩))
 go_returns;have hbe':=hbd.trans (hbe.mono hbd.size);exact ⟨_,rfl,jh hown2 hbe'.size,hbe'.trans (hbf.mono hbe'.size)⟩
theorem z20 {p : Prop} (h : p := by (intro w hSw; go_simp; try with_reducible rfl)) : p := h
end Go.Proofs.YtepkclldbkhanaaGreat
