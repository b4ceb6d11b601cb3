/- What was packed is read again: plain laws. Conditions: texts as an event that may be has them. -/
import Derived.Test.YthphepeniaemoaaGreatDec
import Derived.Test.YthphepeniaemoaaGreatReadI
set_option linter.unusedSimpArgs false
set_option linter.unusedVariables false
set_option linter.unnecessarySimpa false
set_option maxHeartbeats 16000000
set_option maxRecDepth 100000
namespace Go.Proofs.YthphepeniaemoaaGreat
theorem DZ:∀ (n k m:Nat) (s:Bytes),n * 128 ^ k+m<18446744073709551616->k<=9->m<128 ^ k->(0<k->0<n)->gQ k m (aU n++s)=(n * 128 ^ k+m,k+(aU n).length,0):=by
 intro n;induction n using Nat.strongRecOn with
 | _ n ih =>
   intro k m s hlt hk hm hpos;by_cases hn:n<128
   ·rw [nz n hn]
    simp only [List.singleton_append,gQ,List.length_singleton];have hc:(UInt8.ofNat n).toNat=n:=by simp;omega
    rw [hc];have h1:¬ ((0<k/\n=0)\/(k=9/\1<n)):=by
       rintro (⟨a,b⟩ | ⟨a,b⟩)
       ·have:=hpos a;omega
       ·subst a
        have h4:128 ^ 9=9223372036854775808:=by decide
        rw [h4] at hlt;omega
    rw [if_neg h1,if_pos hn,Nat.mod_eq_of_lt hn,Nat.add_comm]
   ·rw [uD n hn]
    simp only [List.cons_append,gQ,List.length_cons];have hc:(UInt8.ofNat (n % 128+128)).toNat=n % 128+128:=by simp;omega
    rw [hc];have hk8:k<=8:=by
       by_cases h9:k=9
       ·subst h9
        have h4:128 ^ 9=9223372036854775808:=by decide
        rw [h4] at hlt;omega
       ·omega
    have h1:¬ ((0<k/\n % 128+128=0)\/(k=9/\1<n % 128+128)):=by omega
    rw [if_neg h1,if_neg (by omega)];have h6:128 ^ (k+1)=128 ^ k * 128:=Nat.pow_succ ..;have h7:(n % 128+128) % 128=n % 128:=by omega
    rw [h7];have h8:n * 128 ^ k=n / 128 * 128 ^ (k+1)+n % 128 * 128 ^ k:=by
       rw [h6];have:n=n / 128 * 128+n % 128:=by omega
       conv=>lhs;rw [this]
       rw [Nat.add_mul,Nat.mul_assoc,Nat.mul_comm 128]
    have hmb:n % 128 * 128 ^ k<=127 * 128 ^ k:=Nat.mul_le_mul_right _ (by omega);rw [ih (n / 128) (by omega) (k+1) (m+n % 128 * 128 ^ k) s (by omega) (by omega) (by omega) (by omega)];simp only [Prod.mk.injEq,and_true];constructor
    ·omega
    ·omega
theorem uO (n:Nat) (s:Bytes) (h:n<18446744073709551616):dn (aU n++s)=(n,(aU n).length,0):=by
 have:=DZ n 0 0 s (by simpa using h) (by omega) (by decide) (by omega);unfold dn;rw [this];simp
theorem dV (most n:Nat) (s:Bytes) (h:n<18446744073709551616) (hm:n<=most):bQ most ⟨aU n++s,0⟩=(⟨s,0⟩,n):=by
 unfold bQ;simp only [uO n s h,if_true];rw [if_neg (by omega)];simp
theorem NG (n:Int) (h0 : -4398046511104<=n) (h1:n<=4398046511104):kE (Lib.zigzag n)=n:=by
 unfold kE Lib.zigzag;split <;> split <;> omega
theorem Qc (most n:Int) (s:Bytes) (h0:0<=most) (hm:most<=4398046511104) (h1 : -most<=n) (h2:n<=most):lm most ⟨vw n++s,0⟩=(⟨s,0⟩,n):=by
 have hz:=JE n (by omega) (by omega);unfold lm vw;simp only [uO (Lib.zigzag n) s (by omega),NG n (by omega) (by omega),if_true];rw [if_neg (by omega)];simp
theorem nR (most:Nat) (l s:Bytes) (hl:l.length<=most) (hm:most<18446744073709551616):aV most ⟨dL l++s,0⟩=(⟨s,0⟩,l):=by
 unfold aV dL;rw [List.append_assoc,dV most l.length (l++s) (by omega) hl];simp
theorem Hu (b0 b1 b2 b3 b4:Bool) (s:Bytes):gI ⟨UInt8.ofNat (fG [b0,b1,b2,b3,b4]) :: s,0⟩=(⟨s,0⟩,[b0,b1,b2,b3,b4]):=by
 have h:∀ a b c d e:Bool,fG [a,b,c,d,e] % 256<32/\lq (fG [a,b,c,d,e] % 256)=[a,b,c,d,e]:=by decide
 obtain ⟨h1,h2⟩:=h b0 b1 b2 b3 b4;unfold gI;simp [h1,h2]
theorem Hy {d:Dot} (hd:bi d=true) (s:Bytes):iQ ⟨qQ d++s,0⟩=(⟨s,0⟩,d):=by
 have hp:=Pe hd;have hq:=hd;unfold bi jr at hq;simp only [Bool.and_eq_true,decide_eq_true_eq] at hq;unfold qQ;rw [if_pos hd];unfold iQ;simp only [List.append_assoc];rw [dV 63 _ _ (by omega) (by omega)];simp only;rw [dV 1048576 _ _ (by omega) (by omega)];simp only;rw [dV 4294967296 _ _ (by omega) (by omega)];have e:(⟨⟨(d.a.dev.toNat:Int),(d.a.inc.toNat:Int)⟩,(d.seq.toNat:Int)⟩:Dot)=d:=by
  obtain ⟨⟨x,y⟩,z⟩:=d;simp only at hp ⊢;rw [Int.toNat_of_nonneg hp.1,Int.toNat_of_nonneg hp.2.1,Int.toNat_of_nonneg hp.2.2]
 simp only [e,hd,if_true]
theorem vU {d:Stamp} (hd:eF d=true) (s:Bytes):gY ⟨iy d++s,0⟩=(⟨s,0⟩,d):=by
 have hq:=hd;unfold eF at hq;simp only [Bool.and_eq_true,decide_eq_true_eq] at hq;unfold iy;rw [if_pos hd];unfold gY;simp only [List.append_assoc];rw [dV 4398046511104 _ _ (by omega) (by omega)];simp only;rw [dV 65535 _ _ (by omega) (by omega)];simp only;rw [dV 63 _ _ (by omega) (by omega)];obtain ⟨x,y,z⟩:=d;simp only at hq ⊢;rw [Int.toNat_of_nonneg (by omega),Int.toNat_of_nonneg (by omega),Int.toNat_of_nonneg (by omega)];simp
theorem qo:∀ (l:List Dot) (s:Bytes),(∀ d∈l,bi d=true)->dM l.length ⟨dS l++s,0⟩=(⟨s,0⟩,l)
 | [],s,_=>by simp [dM,dS]
 | d :: l,s,h=>by
   have h1:dS (d :: l)++s=qQ d++(dS l++s):=by simp [dS]
   rw [h1,List.length_cons,dM,if_pos rfl,Hy (h d (by simp))];simp only [qo l s (fun x hx=>h x (by simp [hx]))]
/-- an event that may be is read as it was packed -/
theorem UA {e:Ev} (he:dC e=true) (s:Bytes):rEv ⟨evB e++s,0⟩=(⟨s,0⟩,e):=by
 have hfit:=sD he;have hq:=he;unfold dC at hq;simp only [Bool.and_eq_true,decide_eq_true_eq] at hq;obtain ⟨x1,x2,_,x4,x5⟩:=hq;unfold overOk at x4;simp only [Bool.and_eq_true] at x4;have hall:=ww _ _ _ x4.2;have h1:iQ ⟨evB e++s,0⟩=(⟨iy e.stamp++(UInt8.ofNat (fG [e.kind == 1,e.ck.hostOnly,e.ck.secure,e.ck.httpOnly,e.ck.persistent]) :: (aU e.over.length++(dS e.over++(o5 e++s)))),0⟩,e.dot):=by
  have:evB e++s=qQ e.dot++(iy e.stamp++(UInt8.ofNat (fG [e.kind == 1,e.ck.hostOnly,e.ck.secure,e.ck.httpOnly,e.ck.persistent]) :: (aU e.over.length++(dS e.over++(o5 e++s))))):=by
   unfold evB CU;simp
  rw [this,Hy x1]
 have ut:=hfit.over;have hgo:yH ⟨evB e++s,0⟩=(⟨s,0⟩,e):=by
  rw [Nk _ h1 (vU x2 _) (Hu _ _ _ _ _ _) (dV 64 _ _ (by omega) ut) (qo _ _ hall)];rw [if_neg (by simp)];simp only [jA,List.getD_cons_zero,List.getD_cons_succ];rcases hfit.kind with hk | hk
  ·obtain ⟨⟨c1,c2⟩,⟨a1,a2⟩,e1,e2⟩:=hfit.item hk
   have hk':(e.kind == 1)=true:=beq_iff_eq.2 hk;unfold kindOk at x5;rw [if_neg (by omega),if_pos hk] at x5;unfold gJ kN fD fZ at x5;simp only [Bool.and_eq_true,decide_eq_true_eq] at x5;rw [if_pos hk'];have ht:o5 e=dL (bl e.key.name)++dL (bl e.key.domain)++dL (bl e.key.path)++dL (bl e.ck.value)++vw e.ck.expiry++aU e.ck.creation.toNat++aU e.ck.access.toNat:=by unfold o5;rw [if_pos hk]
   obtain ⟨_,⟨hn,_⟩,⟨hv,_⟩,⟨hd,_⟩,⟨_,_,hp⟩,_⟩:=x5;have r1:∀ s,aV 256 ⟨dL (bl e.key.name)++s,0⟩=(⟨s,0⟩,bl e.key.name):=fun s=>nR 256 _ s hn (by omega);have r2:∀ s,aV 256 ⟨dL (bl e.key.domain)++s,0⟩=(⟨s,0⟩,bl e.key.domain):=fun s=>nR 256 _ s hd (by omega);have r3:∀ s,aV 256 ⟨dL (bl e.key.path)++s,0⟩=(⟨s,0⟩,bl e.key.path):=fun s=>nR 256 _ s hp (by omega);have r4:∀ s,aV 1024 ⟨dL (bl e.ck.value)++s,0⟩=(⟨s,0⟩,bl e.ck.value):=fun s=>nR 1024 _ s hv (by omega);have r5:∀ s,lm 1099511627776 ⟨vw e.ck.expiry++s,0⟩=(⟨s,0⟩,e.ck.expiry):=fun s=>Qc _ _ s (by omega) (by omega) (by omega) (by omega);have r6:∀ s,bQ 1099511627776 ⟨aU e.ck.creation.toNat++s,0⟩=(⟨s,0⟩,e.ck.creation.toNat):=fun s=>dV _ _ s (by omega) (by omega);have r7:∀ s,bQ 1099511627776 ⟨aU e.ck.access.toNat++s,0⟩=(⟨s,0⟩,e.ck.access.toNat):=fun s=>dV _ _ s (by omega) (by omega);simp only [iM,dD,ht,List.append_assoc,r1,r2,r3,r4,r5,r6,r7,BA,Int.toNat_of_nonneg c1,Int.toNat_of_nonneg a1];obtain ⟨d,st,kd,ky,c,o⟩:=e;simp only at hk ⊢;subst hk;rfl
  ·have hk':(e.kind == 1)=false:=beq_eq_false_iff_ne.2 (by omega)
   unfold kindOk at x5;rw [if_pos hk] at x5;simp only [Bool.and_eq_true,decide_eq_true_eq] at x5;rw [if_neg (by rw [hk'];decide)];have ht:o5 e=[]:=by unfold o5;rw [if_neg (by omega)]
   rw [ht];obtain ⟨⟨hkey,hck⟩,_⟩:=x5;obtain ⟨d,st,kd,ky,c,o⟩:=e;simp only at hk hkey hck ⊢;subst hk hkey hck;rfl
 unfold rEv CV;rw [hgo];simp [he]
end Go.Proofs.YthphepeniaemoaaGreat
/- An event, read off bytes: event.Read. Conditions: at most 2^30 bytes. -/
namespace Go.Proofs.YthphepeniaemoaaGreat
open Go.RowKit
end Go.Proofs.YthphepeniaemoaaGreat
