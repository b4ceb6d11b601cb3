/- What was packed is read again: plain laws. Conditions: texts as an event that may be has them. -/
import Derived.Test.YthphepeniaemoaaGreatDec
import Derived.Test.YthphepeniaemoaaGreatReadI
set_option linter.unusedSimpArgs false
set_option linter.unusedVariables false
set_option linter.unnecessarySimpa false
set_option maxHeartbeats 16000000
set_option maxRecDepth 100000
namespace Go.Proofs.YthphepeniaemoaaGreat
theorem DT:∀ (n k m:Nat) (s:Bytes),n * 128 ^ k+m<18446744073709551616->k<=9->m<128 ^ k->(0<k->0<n)->gB k m (aj n++s)=(n * 128 ^ k+m,k+(aj n).length,0):=by
 intro n;induction n using Nat.strongRecOn with
 | _ n ih =>
   intro k m s hlt hk hm hpos;by_cases hn:n<128
   ·rw [kH n hn]
    simp only [List.singleton_append,gB,List.length_singleton];have hc:(UInt8.ofNat n).toNat=n:=by simp;omega
    rw [hc];have h1:¬ ((0<k/\n=0)\/(k=9/\1<n)):=by
       rintro (⟨a,b⟩ | ⟨a,b⟩)
       ·have:=hpos a;omega
       ·subst a
        have h4:128 ^ 9=9223372036854775808:=by decide
        rw [h4] at hlt;omega
    rw [if_neg h1,if_pos hn,Nat.mod_eq_of_lt hn,Nat.add_comm]
   ·rw [qL n hn]
    simp only [List.cons_append,gB,List.length_cons];have hc:(UInt8.ofNat (n % 128+128)).toNat=n % 128+128:=by simp;omega
    rw [hc];have hk8:k<=8:=by
       by_cases h9:k=9
       ·subst h9
        have h4:128 ^ 9=9223372036854775808:=by decide
        rw [h4] at hlt;omega
       ·omega
    have h1:¬ ((0<k/\n % 128+128=0)\/(k=9/\1<n % 128+128)):=by omega
    rw [if_neg h1,if_neg (by omega)];have h6:128 ^ (k+1)=128 ^ k * 128:=Nat.pow_succ ..;have h7:(n % 128+128) % 128=n % 128:=by omega
    rw [h7];have h8:n * 128 ^ k=n / 128 * 128 ^ (k+1)+n % 128 * 128 ^ k:=by
       rw [h6];have:n=n / 128 * 128+n % 128:=by omega
       conv=>lhs;rw [this]
       rw [Nat.add_mul,Nat.mul_assoc,Nat.mul_comm 128]
    have hmb:n % 128 * 128 ^ k<=127 * 128 ^ k:=Nat.mul_le_mul_right _ (by omega);rw [ih (n / 128) (by omega) (k+1) (m+n % 128 * 128 ^ k) s (by omega) (by omega) (by omega) (by omega)];simp only [Prod.mk.injEq,and_true];constructor
    ·omega
    ·omega
theorem vJ (n:Nat) (s:Bytes) (h:n<18446744073709551616):dD (aj n++s)=(n,(aj n).length,0):=by
 have:=DT n 0 0 s (by simpa using h) (by omega) (by decide) (by omega);unfold dD;rw [this];simp
theorem dZ (most n:Nat) (s:Bytes) (h:n<18446744073709551616) (hm:n<=most):bQ most ⟨aj n++s,0⟩=(⟨s,0⟩,n):=by
 unfold bQ;simp only [vJ n s h,if_true];rw [if_neg (by omega)];simp
theorem Nh (n:Int) (h0 : -4398046511104<=n) (h1:n<=4398046511104):ku (Lib.zigzag n)=n:=by
 unfold ku Lib.zigzag;split <;> split <;> omega
theorem PR (most n:Int) (s:Bytes) (h0:0<=most) (hm:most<=4398046511104) (h1 : -most<=n) (h2:n<=most):lh most ⟨rV n++s,0⟩=(⟨s,0⟩,n):=by
 have hz:=Fb n (by omega) (by omega);unfold lh rV;simp only [vJ (Lib.zigzag n) s (by omega),Nh n (by omega) (by omega),if_true];rw [if_neg (by omega)];simp
theorem oh (most:Nat) (l s:Bytes) (hl:l.length<=most) (hm:most<18446744073709551616):aV most ⟨bW l++s,0⟩=(⟨s,0⟩,l):=by
 unfold aV bW;rw [List.append_assoc,dZ most l.length (l++s) (by omega) hl];simp
theorem G9 (b0 b1 b2 b3 b4:Bool) (s:Bytes):gy ⟨UInt8.ofNat (dQ [b0,b1,b2,b3,b4]) :: s,0⟩=(⟨s,0⟩,[b0,b1,b2,b3,b4]):=by
 have h:∀ a b c d e:Bool,dQ [a,b,c,d,e] % 256<32/\lq (dQ [a,b,c,d,e] % 256)=[a,b,c,d,e]:=by decide
 obtain ⟨h1,h2⟩:=h b0 b1 b2 b3 b4;unfold gy;simp [h1,h2]
theorem Ho {d:Dot} (hd:bn d=true) (s:Bytes):iI ⟨jy d++s,0⟩=(⟨s,0⟩,d):=by
 have hp:=OI hd;have hq:=hd;unfold bn jk at hq;simp only [Bool.and_eq_true,decide_eq_true_eq] at hq;unfold jy;rw [if_pos hd];unfold iI;simp only [List.append_assoc];rw [dZ 63 _ _ (by omega) (by omega)];simp only;rw [dZ 1048576 _ _ (by omega) (by omega)];simp only;rw [dZ 4294967296 _ _ (by omega) (by omega)];have e:(⟨⟨(d.a.dev.toNat:Int),(d.a.inc.toNat:Int)⟩,(d.seq.toNat:Int)⟩:Dot)=d:=by
  obtain ⟨⟨x,y⟩,z⟩:=d;simp only at hp ⊢;rw [Int.toNat_of_nonneg hp.1,Int.toNat_of_nonneg hp.2.1,Int.toNat_of_nonneg hp.2.2]
 simp only [e,hd,if_true]
theorem wR {d:Stamp} (hd:dI d=true) (s:Bytes):gQ ⟨dE d++s,0⟩=(⟨s,0⟩,d):=by
 have hq:=hd;unfold dI at hq;simp only [Bool.and_eq_true,decide_eq_true_eq] at hq;unfold dE;rw [if_pos hd];unfold gQ;simp only [List.append_assoc];rw [dZ 4398046511104 _ _ (by omega) (by omega)];simp only;rw [dZ 65535 _ _ (by omega) (by omega)];simp only;rw [dZ 63 _ _ (by omega) (by omega)];obtain ⟨x,y,z⟩:=d;simp only at hq ⊢;rw [Int.toNat_of_nonneg (by omega),Int.toNat_of_nonneg (by omega),Int.toNat_of_nonneg (by omega)];simp
theorem qN:∀ (l:List Dot) (s:Bytes),(∀ d∈l,bn d=true)->dS l.length ⟨bV l++s,0⟩=(⟨s,0⟩,l)
 | [],s,_=>by simp [dS,bV]
 | d :: l,s,h=>by
   have h1:bV (d :: l)++s=jy d++(bV l++s):=by simp [bV]
   rw [h1,List.length_cons,dS,if_pos rfl,Ho (h d (by simp))];simp only [qN l s (fun x hx=>h x (by simp [hx]))]
/-- an event that may be is read as it was packed -/
theorem Um {e:Ev} (he:dm e=true) (s:Bytes):rEv ⟨evB e++s,0⟩=(⟨s,0⟩,e):=by
 have hfit:=qy he;have hq:=he;unfold dm at hq;simp only [Bool.and_eq_true,decide_eq_true_eq] at hq;obtain ⟨x1,x2,_,x4,x5⟩:=hq;unfold overOk at x4;simp only [Bool.and_eq_true] at x4;have hall:=qP _ _ _ x4.2;have h1:iI ⟨evB e++s,0⟩=(⟨dE e.stamp++(UInt8.ofNat (dQ [e.kind == 1,e.ck.hostOnly,e.ck.secure,e.ck.httpOnly,e.ck.persistent]) :: (aj e.over.length++(bV e.over++(lG e++s)))),0⟩,e.dot):=by
  have:evB e++s=jy e.dot++(dE e.stamp++(UInt8.ofNat (dQ [e.kind == 1,e.ck.hostOnly,e.ck.secure,e.ck.httpOnly,e.ck.persistent]) :: (aj e.over.length++(bV e.over++(lG e++s))))):=by
   unfold evB yI;simp
  rw [this,Ho x1]
 have qm:=hfit.over;have hgo:yJ ⟨evB e++s,0⟩=(⟨s,0⟩,e):=by
  rw [MO _ h1 (wR x2 _) (G9 _ _ _ _ _ _) (dZ 64 _ _ (by omega) qm) (qN _ _ hall)];rw [if_neg (by simp)];simp only [jr,List.getD_cons_zero,List.getD_cons_succ];rcases hfit.kind with hk | hk
  ·obtain ⟨⟨c1,c2⟩,⟨a1,a2⟩,e1,e2⟩:=hfit.item hk
   have hk':(e.kind == 1)=true:=beq_iff_eq.2 hk;unfold kindOk at x5;rw [if_neg (by omega),if_pos hk] at x5;unfold gq kL fE gm at x5;simp only [Bool.and_eq_true,decide_eq_true_eq] at x5;rw [if_pos hk'];have ht:lG e=bW (bl e.key.name)++bW (bl e.key.domain)++bW (bl e.key.path)++bW (bl e.ck.value)++rV e.ck.expiry++aj e.ck.creation.toNat++aj e.ck.access.toNat:=by unfold lG;rw [if_pos hk]
   obtain ⟨_,⟨hn,_⟩,⟨hv,_⟩,⟨hd,_⟩,⟨_,_,hp⟩,_⟩:=x5;have r1:∀ s,aV 256 ⟨bW (bl e.key.name)++s,0⟩=(⟨s,0⟩,bl e.key.name):=fun s=>oh 256 _ s hn (by omega);have r2:∀ s,aV 256 ⟨bW (bl e.key.domain)++s,0⟩=(⟨s,0⟩,bl e.key.domain):=fun s=>oh 256 _ s hd (by omega);have r3:∀ s,aV 256 ⟨bW (bl e.key.path)++s,0⟩=(⟨s,0⟩,bl e.key.path):=fun s=>oh 256 _ s hp (by omega);have r4:∀ s,aV 1024 ⟨bW (bl e.ck.value)++s,0⟩=(⟨s,0⟩,bl e.ck.value):=fun s=>oh 1024 _ s hv (by omega);have r5:∀ s,lh 1099511627776 ⟨rV e.ck.expiry++s,0⟩=(⟨s,0⟩,e.ck.expiry):=fun s=>PR _ _ s (by omega) (by omega) (by omega) (by omega);have r6:∀ s,bQ 1099511627776 ⟨aj e.ck.creation.toNat++s,0⟩=(⟨s,0⟩,e.ck.creation.toNat):=fun s=>dZ _ _ s (by omega) (by omega);have r7:∀ s,bQ 1099511627776 ⟨aj e.ck.access.toNat++s,0⟩=(⟨s,0⟩,e.ck.access.toNat):=fun s=>dZ _ _ s (by omega) (by omega);simp only [iE,dK,ht,List.append_assoc,r1,r2,r3,r4,r5,r6,r7,Bj,Int.toNat_of_nonneg c1,Int.toNat_of_nonneg a1];obtain ⟨d,st,kd,ky,c,o⟩:=e;simp only at hk ⊢;subst hk;rfl
  ·have hk':(e.kind == 1)=false:=beq_eq_false_iff_ne.2 (by omega)
   unfold kindOk at x5;rw [if_pos hk] at x5;simp only [Bool.and_eq_true,decide_eq_true_eq] at x5;rw [if_neg (by rw [hk'];decide)];have ht:lG e=[]:=by unfold lG;rw [if_neg (by omega)]
   rw [ht];obtain ⟨⟨hkey,hck⟩,_⟩:=x5;obtain ⟨d,st,kd,ky,c,o⟩:=e;simp only at hk hkey hck ⊢;subst hk hkey hck;rfl
 unfold rEv CG;rw [hgo];simp [he]
end Go.Proofs.YthphepeniaemoaaGreat
/- An event, read off bytes: event.Read. Conditions: at most 2^30 bytes. -/
namespace Go.Proofs.YthphepeniaemoaaGreat
open Go.RowKit
end Go.Proofs.YthphepeniaemoaaGreat
