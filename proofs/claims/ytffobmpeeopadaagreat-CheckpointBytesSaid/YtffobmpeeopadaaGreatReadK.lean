/- What was packed is read again: plain laws. Conditions: texts as an event that may be has them. -/
import Derived.Test.YtffobmpeeopadaaGreatDec
import Derived.Test.YtffobmpeeopadaaGreatReadI
set_option linter.unusedSimpArgs false
set_option linter.unusedVariables false
set_option linter.unnecessarySimpa false
set_option maxHeartbeats 16000000
set_option maxRecDepth 100000
namespace Go.Proofs.YtffobmpeeopadaaGreat
theorem Et:∀ (n k m:Nat) (s:Bytes),n * 128 ^ k+m<18446744073709551616->k<=9->m<128 ^ k->(0<k->0<n)->gX k m (aj n++s)=(n * 128 ^ k+m,k+(aj n).length,0):=by
 intro n;induction n using Nat.strongRecOn with
 | _ n ih =>
   intro k m s hlt hk hm hpos;by_cases hn:n<128
   ·rw [kZ n hn]
    simp only [List.singleton_append,gX,List.length_singleton];have hc:(UInt8.ofNat n).toNat=n:=by simp;omega
    rw [hc];have h1:¬ ((0<k/\n=0)\/(k=9/\1<n)):=by
       rintro (⟨a,b⟩ | ⟨a,b⟩)
       ·have:=hpos a;omega
       ·subst a
        have h4:128 ^ 9=9223372036854775808:=by decide
        rw [h4] at hlt;omega
    rw [if_neg h1,if_pos hn,Nat.mod_eq_of_lt hn,Nat.add_comm]
   ·rw [qN n hn]
    simp only [List.cons_append,gX,List.length_cons];have hc:(UInt8.ofNat (n % 128+128)).toNat=n % 128+128:=by simp;omega
    rw [hc];have hk8:k<=8:=by
       by_cases h9:k=9
       ·subst h9
        have h4:128 ^ 9=9223372036854775808:=by decide
        rw [h4] at hlt;omega
       ·omega
    have h1:¬ ((0<k/\n % 128+128=0)\/(k=9/\1<n % 128+128)):=by omega
    rw [if_neg h1,if_neg (by omega)];have h6:128 ^ (k+1)=128 ^ k * 128:=Nat.pow_succ ..;have h7:(n % 128+128) % 128=n % 128:=by omega
    rw [h7];have h8:n * 128 ^ k=n / 128 * 128 ^ (k+1)+n % 128 * 128 ^ k:=by
       rw [h6];have:n=n / 128 * 128+n % 128:=by omega
       conv=>lhs;rw [this]
       rw [Nat.add_mul,Nat.mul_assoc,Nat.mul_comm 128]
    have hmb:n % 128 * 128 ^ k<=127 * 128 ^ k:=Nat.mul_le_mul_right _ (by omega);rw [ih (n / 128) (by omega) (k+1) (m+n % 128 * 128 ^ k) s (by omega) (by omega) (by omega) (by omega)];simp only [Prod.mk.injEq,and_true];constructor
    ·omega
    ·omega
theorem vJ (n:Nat) (s:Bytes) (h:n<18446744073709551616):dF (aj n++s)=(n,(aj n).length,0):=by
 have:=Et n 0 0 s (by simpa using h) (by omega) (by decide) (by omega);unfold dF;rw [this];simp
theorem dZ (most n:Nat) (s:Bytes) (h:n<18446744073709551616) (hm:n<=most):bU most ⟨aj n++s,0⟩=(⟨s,0⟩,n):=by
 unfold bU;simp only [vJ n s h,if_true];rw [if_neg (by omega)];simp
theorem Oe (n:Int) (h0 : -4398046511104<=n) (h1:n<=4398046511104):kN (Lib.zigzag n)=n:=by
 unfold kN Lib.zigzag;split <;> split <;> omega
theorem QG (most n:Int) (s:Bytes) (h0:0<=most) (hm:most<=4398046511104) (h1 : -most<=n) (h2:n<=most):lK most ⟨rQ n++s,0⟩=(⟨s,0⟩,n):=by
 have hz:=FT n (by omega) (by omega);unfold lK rQ;simp only [vJ (Lib.zigzag n) s (by omega),Oe n (by omega) (by omega),if_true];rw [if_neg (by omega)];simp
theorem oC (most:Nat) (l s:Bytes) (hl:l.length<=most) (hm:most<18446744073709551616):aX most ⟨bZ l++s,0⟩=(⟨s,0⟩,l):=by
 unfold aX bZ;rw [List.append_assoc,dZ most l.length (l++s) (by omega) hl];simp
theorem Iy (b0 b1 b2 b3 b4:Bool) (s:Bytes):gV ⟨UInt8.ofNat (dO [b0,b1,b2,b3,b4]) :: s,0⟩=(⟨s,0⟩,[b0,b1,b2,b3,b4]):=by
 have h:∀ a b c d e:Bool,dO [a,b,c,d,e] % 256<32/\lM (dO [a,b,c,d,e] % 256)=[a,b,c,d,e]:=by decide
 obtain ⟨h1,h2⟩:=h b0 b1 b2 b3 b4;unfold gV;simp [h1,h2]
theorem IB {d:Dot} (hd:bi d=true) (s:Bytes):iY ⟨jK d++s,0⟩=(⟨s,0⟩,d):=by
 have hp:=PP hd;have hq:=hd;unfold bi jh at hq;simp only [Bool.and_eq_true,decide_eq_true_eq] at hq;unfold jK;rw [if_pos hd];unfold iY;simp only [List.append_assoc];rw [dZ 63 _ _ (by omega) (by omega)];simp only;rw [dZ 1048576 _ _ (by omega) (by omega)];simp only;rw [dZ 4294967296 _ _ (by omega) (by omega)];have e:(⟨⟨(d.a.dev.toNat:Int),(d.a.inc.toNat:Int)⟩,(d.seq.toNat:Int)⟩:Dot)=d:=by
  obtain ⟨⟨x,y⟩,z⟩:=d;simp only at hp ⊢;rw [Int.toNat_of_nonneg hp.1,Int.toNat_of_nonneg hp.2.1,Int.toNat_of_nonneg hp.2.2]
 simp only [e,hd,if_true]
theorem wV {d:Stamp} (hd:dM d=true) (s:Bytes):iw ⟨dG d++s,0⟩=(⟨s,0⟩,d):=by
 have hq:=hd;unfold dM at hq;simp only [Bool.and_eq_true,decide_eq_true_eq] at hq;unfold dG;rw [if_pos hd];unfold iw;simp only [List.append_assoc];rw [dZ 4398046511104 _ _ (by omega) (by omega)];simp only;rw [dZ 65535 _ _ (by omega) (by omega)];simp only;rw [dZ 63 _ _ (by omega) (by omega)];obtain ⟨x,y,z⟩:=d;simp only at hq ⊢;rw [Int.toNat_of_nonneg (by omega),Int.toNat_of_nonneg (by omega),Int.toNat_of_nonneg (by omega)];simp
theorem qQ:∀ (l:List Dot) (s:Bytes),(∀ d∈l,bi d=true)->dR l.length ⟨bY l++s,0⟩=(⟨s,0⟩,l)
 | [],s,_=>by simp [dR,bY]
 | d :: l,s,h=>by
   have h1:bY (d :: l)++s=jK d++(bY l++s):=by simp [bY]
   rw [h1,List.length_cons,dR,if_pos rfl,IB (h d (by simp))];simp only [qQ l s (fun x hx=>h x (by simp [hx]))]
/-- an event that may be is read as it was packed -/
theorem U4 {e:Ev} (he:dw e=true) (s:Bytes):rEv ⟨evB e++s,0⟩=(⟨s,0⟩,e):=by
 have hfit:=qC he;have hq:=he;unfold dw at hq;simp only [Bool.and_eq_true,decide_eq_true_eq] at hq;obtain ⟨x1,x2,_,x4,x5⟩:=hq;unfold overOk at x4;simp only [Bool.and_eq_true] at x4;have hall:=qV _ _ _ x4.2;have h1:iY ⟨evB e++s,0⟩=(⟨dG e.stamp++(UInt8.ofNat (dO [e.kind == 1,e.ck.hostOnly,e.ck.secure,e.ck.httpOnly,e.ck.persistent]) :: (aj e.over.length++(bY e.over++(lW e++s)))),0⟩,e.dot):=by
  have:evB e++s=jK e.dot++(dG e.stamp++(UInt8.ofNat (dO [e.kind == 1,e.ck.hostOnly,e.ck.secure,e.ck.httpOnly,e.ck.persistent]) :: (aj e.over.length++(bY e.over++(lW e++s))))):=by
   unfold evB yS;simp
  rw [this,IB x1]
 have qo:=hfit.over;have hgo:yT ⟨evB e++s,0⟩=(⟨s,0⟩,e):=by
  rw [NL _ h1 (wV x2 _) (Iy _ _ _ _ _ _) (dZ 64 _ _ (by omega) qo) (qQ _ _ hall)];rw [if_neg (by simp)];simp only [jH,List.getD_cons_zero,List.getD_cons_succ];rcases hfit.kind with hk | hk
  ·obtain ⟨⟨c1,c2⟩,⟨a1,a2⟩,e1,e2⟩:=hfit.item hk
   have hk':(e.kind == 1)=true:=beq_iff_eq.2 hk;unfold kindOk at x5;rw [if_neg (by omega),if_pos hk] at x5;unfold gI lh fH gB at x5;simp only [Bool.and_eq_true,decide_eq_true_eq] at x5;rw [if_pos hk'];have ht:lW e=bZ (bl e.key.name)++bZ (bl e.key.domain)++bZ (bl e.key.path)++bZ (bl e.ck.value)++rQ e.ck.expiry++aj e.ck.creation.toNat++aj e.ck.access.toNat:=by unfold lW;rw [if_pos hk]
   obtain ⟨_,⟨hn,_⟩,⟨hv,_⟩,⟨hd,_⟩,⟨_,_,hp⟩,_⟩:=x5;have r1:∀ s,aX 256 ⟨bZ (bl e.key.name)++s,0⟩=(⟨s,0⟩,bl e.key.name):=fun s=>oC 256 _ s hn (by omega);have r2:∀ s,aX 256 ⟨bZ (bl e.key.domain)++s,0⟩=(⟨s,0⟩,bl e.key.domain):=fun s=>oC 256 _ s hd (by omega);have r3:∀ s,aX 256 ⟨bZ (bl e.key.path)++s,0⟩=(⟨s,0⟩,bl e.key.path):=fun s=>oC 256 _ s hp (by omega);have r4:∀ s,aX 1024 ⟨bZ (bl e.ck.value)++s,0⟩=(⟨s,0⟩,bl e.ck.value):=fun s=>oC 1024 _ s hv (by omega);have r5:∀ s,lK 1099511627776 ⟨rQ e.ck.expiry++s,0⟩=(⟨s,0⟩,e.ck.expiry):=fun s=>QG _ _ s (by omega) (by omega) (by omega) (by omega);have r6:∀ s,bU 1099511627776 ⟨aj e.ck.creation.toNat++s,0⟩=(⟨s,0⟩,e.ck.creation.toNat):=fun s=>dZ _ _ s (by omega) (by omega);have r7:∀ s,bU 1099511627776 ⟨aj e.ck.access.toNat++s,0⟩=(⟨s,0⟩,e.ck.access.toNat):=fun s=>dZ _ _ s (by omega) (by omega);simp only [iU,dI,ht,List.append_assoc,r1,r2,r3,r4,r5,r6,r7,BZ,Int.toNat_of_nonneg c1,Int.toNat_of_nonneg a1];obtain ⟨d,st,kd,ky,c,o⟩:=e;simp only at hk ⊢;subst hk;rfl
  ·have hk':(e.kind == 1)=false:=beq_eq_false_iff_ne.2 (by omega)
   unfold kindOk at x5;rw [if_pos hk] at x5;simp only [Bool.and_eq_true,decide_eq_true_eq] at x5;rw [if_neg (by rw [hk'];decide)];have ht:lW e=[]:=by unfold lW;rw [if_neg (by omega)]
   rw [ht];obtain ⟨⟨hkey,hck⟩,_⟩:=x5;obtain ⟨d,st,kd,ky,c,o⟩:=e;simp only at hk hkey hck ⊢;subst hk hkey hck;rfl
 unfold rEv Dw;rw [hgo];simp [he]
end Go.Proofs.YtffobmpeeopadaaGreat
/- An event, read off bytes: event.Read. Conditions: at most 2^30 bytes. -/
namespace Go.Proofs.YtffobmpeeopadaaGreat
open Go.RowKit
end Go.Proofs.YtffobmpeeopadaaGreat
