/- An event's bytes. Conditions: texts of at most 2^24 bytes. -/
import Derived.Test.YthphepeniaemoaaGreatMkB
import Derived.Test.YthphepeniaemoaaGreatCel
import Derived.IntWalk
import Derived.Laws.BitsAllLaws
set_option linter.unusedSimpArgs false
set_option linter.unusedVariables false
set_option linter.unnecessarySimpa false
set_option maxHeartbeats 16000000
set_option maxRecDepth 100000
namespace Go.Proofs.YthphepeniaemoaaGreat
open Go.RowKit
end Go.Proofs.YthphepeniaemoaaGreat
/- Two events that may be have the same bytes only if they are the same. Conditions: texts of at most 2^24 bytes. -/
namespace Go.Proofs.YthphepeniaemoaaGreat
open Go.RowKit
theorem OI {d:Dot} (h:bn d=true):0<=d.a.dev/\0<=d.a.inc/\0<=d.seq:=by
 unfold bn jk at h;simp only [Bool.and_eq_true,decide_eq_true_eq] at h;omega
theorem qP (d:Dot):∀ (p:Option Dot) (l:List Dot),dh d p l=true->∀ x∈l,bn x=true
 | _,[],_,x,hx=>by simp at hx
 | p,y :: r,h,x,hx=>by
   unfold dh at h;simp only [Bool.and_eq_true] at h;rcases List.mem_cons.1 hx with rfl | hx
   ·have:=h.1
    unfold jS at this;simp only [Bool.and_eq_true] at this;exact this.1
   ·exact qP d _ r h.2 x hx
end Go.Proofs.YthphepeniaemoaaGreat
/- The number that bytes begin with: a plain function. Conditions: none. -/
namespace Go.Proofs.YthphepeniaemoaaGreat
open Go.RowKit
/-- from place k on, n so far: the number, how many bytes, the error -/
def gB:Nat->Nat->Bytes->Nat×Nat×Int
 | _,_,[]=>(0,0,2)
 | k,n,c :: r=>if (0<k/\c.toNat=0)\/(k=9/\1<c.toNat) then (0,0,1) else if c.toNat<128 then (n+c.toNat % 128 * 128 ^ k,k+1,0) else gB (k+1) (n+c.toNat % 128 * 128 ^ k) r
def dD (l:Bytes):Nat×Nat×Int:=gB 0 0 l
theorem PU {k:Nat} (h:k<=9):128 ^ k<=9223372036854775808:=by
 have:=Nat.pow_le_pow_right (show 0<128 by omega) h;exact Nat.le_trans this (by decide)
theorem zk:∀ (l:Bytes) (k n:Nat),k<=9->n<128 ^ k->((gB k n l).2.2=0/\(gB k n l).1<18446744073709551616/\k<(gB k n l).2.1/\(gB k n l).2.1<=k+l.length)\/(((gB k n l).2.2=1\/(gB k n l).2.2=2)/\(gB k n l).1=0/\(gB k n l).2.1=0)
 | [],k,n,_,_=>by right;simp [gB]
 | c :: r,k,n,hk,hn=>by
   have hp:=PU hk;unfold gB;split
   ·right;simp
   ·rename_i h1
    split
    ·rename_i h2
     left;refine ⟨rfl,?_,Nat.lt_succ_self k,by simp only [List.length_cons];omega⟩;by_cases h9:k=9
     ·subst h9
      have:c.toNat<=1:=by omega
      have h3:c.toNat % 128 * 128 ^ 9<=1 * 128 ^ 9:=Nat.mul_le_mul_right _ (by omega);have h4:128 ^ 9=9223372036854775808:=by decide
      simp only;omega
     ·have h3:c.toNat % 128 * 128 ^ k<=127 * 128 ^ k:=Nat.mul_le_mul_right _ (by omega)
      have h5:128 ^ k<=128 ^ 8:=Nat.pow_le_pow_right (by omega) (by omega);have h4:128 ^ 8=72057594037927936:=by decide
      simp only;omega
    ·rename_i h2
     have hk8:k+1<=9:=by
      by_cases h9:k=9
      ·subst h9;omega
      ·omega
     have h3:c.toNat % 128 * 128 ^ k<=127 * 128 ^ k:=Nat.mul_le_mul_right _ (by omega);have h6:128 ^ (k+1)=128 ^ k * 128:=Nat.pow_succ ..;have:=zk r (k+1) (n+c.toNat % 128 * 128 ^ k) hk8 (by omega);rcases this with ⟨a,b,c',d⟩ | h
     ·left;exact ⟨a,b,by omega,by simp only [List.length_cons];omega⟩
     ·right;exact h
theorem tJ (l:Bytes):((dD l).2.2=0/\(dD l).1<18446744073709551616/\0<(dD l).2.1/\(dD l).2.1<=l.length)\/(((dD l).2.2=1\/(dD l).2.2=2)/\(dD l).1=0/\(dD l).2.1=0):=by
 have:=zk l 0 0 (by omega) (by decide);simpa [dD] using this
theorem Lu:∀ x:Fin 256,bits BinOp.and IntKind.u8 ((x.val:Nat):Int) 127=((x.val % 128:Nat):Int):=by decide +kernel
theorem U9 (c:UInt8):bits BinOp.and IntKind.u8 (c.toNat:Int) 127=((c.toNat % 128:Nat):Int):=Lu ⟨c.toNat,by have:=c.toNat_lt;omega⟩
theorem Vx (m k c:Nat) (hk:k<=9) (hm:m<128 ^ k) (hc:k=9->c % 128<=1):bits BinOp.or IntKind.u64 (m:Int) (IntKind.u64.wrap ((c:Int) % 128 * 2 ^ (7 * k)))=((m+c % 128 * 128 ^ k:Nat):Int):=by
 have e:(2:Int) ^ (7 * k)=((128 ^ k:Nat):Int):=by
  have h:(2:Nat) ^ (7 * k)=128 ^ k:=by rw [Nat.pow_mul]
  rw [<- h];simp
 have hp:=PU hk;have hx:c % 128 * 128 ^ k+128 ^ k<=18446744073709551616:=by
  by_cases h9:k=9
  ·have h1:=Nat.mul_le_mul_right (128 ^ k) (hc h9)
   omega
  ·have h3:c % 128 * 128 ^ k<=127 * 128 ^ k:=Nat.mul_le_mul_right _ (by omega)
   have h5:128 ^ k<=128 ^ 8:=Nat.pow_le_pow_right (by omega) (by omega);have h4:128 ^ 8=72057594037927936:=by decide
   omega
 have e2:((c:Int) % 128 * 2 ^ (7 * k))=((c % 128 * 128 ^ k:Nat):Int):=by
  rw [e];simp
 have hpos:0<128 ^ k:=Nat.pow_pos (by omega);rw [e2,IntWalk.u64_in _ (by omega),u64_or_nat m (c % 128 * 128 ^ k) (by omega) (by omega)];have h7:(128:Nat) ^ k=2 ^ (7 * k):=by rw [Nat.pow_mul]
 have h8:m ||| c % 128 * 128 ^ k=c % 128 * 128 ^ k+m:=by
  rw [h7] at hm ⊢;rw [Nat.or_comm,<- Nat.shiftLeft_eq,Nat.shiftLeft_add_eq_or_of_lt hm]
 rw [h8,Nat.add_comm]
theorem z91 {p : Prop} (h : p := by
 have XB : c.toNat <= 127 := by omega
 have HE2 : Hid (dD l = (v, k + 1, 0)) := by rw [Hid, HE.out, if_pos h1]
 clear HE hv h1
 go_wp2
 try rw [Exit.noGoto_ret]
 go_ret3
 exact ⟨by rw [HE2.out]; go_num, rfl⟩) : p := h
theorem z31 {p : Prop} (h : p := by
 have hor := Vx m k c.toNat hk9 HM.out (fun h => by omega)
 obtain ⟨v, hv⟩ : ∃ v : Nat, v = m + c.toNat % 128 * 128 ^ k := ⟨_, rfl⟩
 rw [<- hv] at hor HE
 by_cases h1 : c.toNat < 128
 ·exact z91
 ·skip
  have hc128 : 128 <= c.toNat := by omega
  have HV := aq hv
  have HE2 : Hid (dD l = gB (k + 1) v (l.drop (k + 1))) := by rw [Hid, HE.out, if_neg h1]
  clear HE hv h1
  have h8 : k + 1 <= 9 := by omega
  have hvm : v < 128 ^ (k + 1) := by have h6 : 128 ^ (k + 1) = 128 ^ k * 128 := Nat.pow_succ ..; have h3 : c.toNat % 128 * 128 ^ k <= 127 * 128 ^ k := Nat.mul_le_mul_right _ (by omega); have h0 := HM.out; rw [HV.out, h6]; omega
  have HVM := aq hvm
  clear hvm
  go_wp2
  go_round
  case rel => exact ⟨k + 1, v, by omega, h8, rfl, by go_num, HVM.out, HE2.out⟩
  case measure => simp [intOf] <;> omega) : p := h
theorem Gs (a:Option Addr) (cap:Nat) (l:Bytes) (w:World) (hl:l.length<=1073741824) (h:BytesIn w a l) :
 Calls Tryz.prog 133 #[.slice a l.length cap] w fun x w'=>x=.returned (.tuple #[.int .u64 (dD l).1,.int .i64 (dD l).2.1,.int .i64 (dD l).2.2])/\w=w':=by
 go_enter Tryz.func133,Tryz.ntmps133;go_wp2;go_step3
 go_wp2;go_step3
 go_wp2;go_loop [5,6] (fun n i=>∃ k m:Nat,k<=l.length/\k<=9/\n=.int .u64 m/\i=.int .i64 k/\m<128 ^ k/\dD l=gB k m (l.drop k)) (fun _ i=>l.length - (intOf i).toNat)
 case atStart=>exact ⟨0,0,Nat.zero_le _,by omega,rfl,rfl,by decide,rfl⟩
 case round =>
  obtain ⟨k,m,hk,hk9,rfl,rfl,hm,hpre⟩:=hrel;have HP:=aq hpre;have HM:=aq hm;clear hpre hm;by_cases hlt:k<l.length
  ·rcases h with h0 | ⟨A,off,rfl,hb⟩
   ·rw [h0] at hlt;simp at hlt
   have hc:=hb.cell hlt;have hne:((k:Int) == (l.length:Int))=false:=by rw [beq_eq_false_iff_ne];omega
   have hne2:(k == l.length)=false:=by rw [beq_eq_false_iff_ne];omega
   have hu:=U9 l[k];have HS:Hid (dD l=if (0<k/\l[k].toNat=0)\/(k=9/\1<l[k].toNat) then (0,0,1) else if l[k].toNat<128 then (m+l[k].toNat % 128 * 128 ^ k,k+1,0) else gB (k+1) (m+l[k].toNat % 128 * 128 ^ k) (l.drop (k+1))):=by
        rw [Hid,HP.out,List.drop_eq_getElem_cons hlt,gB]
   clear HP;obtain ⟨c,hcc⟩:∃ c,c=l[k]:=⟨_,rfl⟩;rw [<- hcc] at hc hu HS;clear hcc;have hcl:=c.toNat_lt;by_cases hk0:0<k
   ·by_cases hc0:c.toNat=0
    ·have hq:((c.toNat:Int) == 0)=true:=by rw [beq_iff_eq];omega
     have HE:Hid (dD l=(0,0,1)):=by rw [Hid,HS.out,if_pos (bb ⟨hk0,hc0⟩)]
     clear hc0 HS;go_wp2;try rw [Exit.noGoto_ret]
     go_ret3
     exact ⟨by rw [HE.out];first | rfl | go_num,rfl⟩
    ·have hq:((c.toNat:Int) == 0)=false:=by rw [beq_eq_false_iff_ne];omega
     by_cases h9:k=9
     ·have h63:(7 * (k:Int) == 63)=true:=by rw [beq_iff_eq];omega
      by_cases hc1:1<c.toNat
      ·have HE:Hid (dD l=(0,0,1)):=by rw [Hid,HS.out,if_pos (bd ⟨h9,hc1⟩)]
       clear h9 hc0 HS;go_wp2;try rw [Exit.noGoto_ret]
       go_ret3
       exact ⟨by rw [HE.out];first | rfl | go_num,rfl⟩
      ·have hd0:decide (1<c.toNat)=false:=aM hc1
       have HE:=aq (HS.out.trans (if_neg (by omega)));have h90:k<=9/\9<=k:=by omega
       clear hc0 HS h9;have hor:=Vx m k c.toNat hk9 HM.out (fun h=>by omega);obtain ⟨v,hv⟩:∃ v:Nat,v=m+c.toNat % 128 * 128 ^ k:=⟨_,rfl⟩;rw [<- hv] at hor HE;by_cases h1:c.toNat<128
       ·exact z91
       ·exact absurd (show c.toNat<128 by omega) h1
     ·have h63:(7 * (k:Int) == 63)=false:=by rw [beq_eq_false_iff_ne];omega
      have HE:=aq (HS.out.trans (if_neg (by omega)));clear hc0 HS
      exact z31
   ·have h9:k≠9:=by omega
    have hd0:decide (0<k)=false:=aM hk0;have h63:(7 * (k:Int) == 63)=false:=by rw [beq_eq_false_iff_ne];omega
    have HE:=aq (HS.out.trans (if_neg (by omega)));clear HS
    exact z31
  ·have HE:Hid (dD l=(0,0,2)):=by rw [Hid,HP.out,List.drop_eq_nil_of_le (by omega)];rfl
   have hne:((k:Int) == (l.length:Int))=true:=by rw [beq_iff_eq];omega
   have hne2:(k == l.length)=true:=by rw [beq_iff_eq];omega
   go_wp2;try rw [Exit.noGoto_ret]
   go_ret3
   exact ⟨by rw [HE.out];rfl,rfl⟩
end Go.Proofs.YthphepeniaemoaaGreat
/- What bytes are read as: plain functions. Conditions: none. -/
namespace Go.Proofs.YthphepeniaemoaaGreat
open Go.RowKit
/-- what is left, and the first error -/
structure Rd where
 b:Bytes
 e:Int
def bQ (most:Nat) (r:Rd):Rd×Nat :=
 if r.e=0 then (if (dD r.b).2.2=0 then (if most<(dD r.b).1 then (⟨r.b,3⟩,0) else (⟨r.b.drop (dD r.b).2.1,0⟩,(dD r.b).1)) else (⟨r.b,(dD r.b).2.2⟩,0)) else (r,0)
/-- the whole number of a fold -/
def ku (n:Nat):Int:=if n % 2=0 then ((n / 2:Nat):Int) else -((n / 2:Nat):Int) - 1
def lh (most:Int) (r:Rd):Rd×Int :=
 if r.e=0 then (if (dD r.b).2.2=0 then (if max most 0<ku (dD r.b).1\/ku (dD r.b).1 < - max most 0 then (⟨r.b,3⟩,0) else (⟨r.b.drop (dD r.b).2.1,0⟩,ku (dD r.b).1)) else (⟨r.b,(dD r.b).2.2⟩,0)) else (r,0)
def aV (most:Nat) (r:Rd):Rd×Bytes :=
 if r.e=0 then
    (if (bQ most r).1.e=0 then (if (bQ most r).1.b.length<(bQ most r).2 then (⟨r.b,2⟩,[]) else (⟨(bQ most r).1.b.drop (bQ most r).2,0⟩,(bQ most r).1.b.take (bQ most r).2)) else ((bQ most r).1,[]))
 else (r,[])
theorem dA (most:Nat) (r:Rd):(bQ most r).1.b.length<=r.b.length/\(bQ most r).2<=most:=by
 unfold bQ;split
 ·split
  ·split
   ·simp
   ·simp;omega
  ·simp
 ·simp
theorem eu (most:Nat) (r:Rd):(aV most r).1.b.length<=r.b.length/\(aV most r).2.length<=most:=by
 have h:=dA most r;unfold aV;split
 ·split
  ·split
   ·simp
   ·simp;omega
  ·simp;omega
 ·simp
theorem G6 (most:Int) (r:Rd) (h0:0<=most):(lh most r).1.b.length<=r.b.length /\ -most<=(lh most r).2/\(lh most r).2<=most:=by
 unfold lh;split
 ·split
  ·split
   ·simp;omega
   ·simp;omega
  ·simp;omega
 ·simp;omega
/-- the five lowest bits -/
def lq (c:Nat):List Bool:=[decide (c % 2=1),decide (c / 2 % 2=1),decide (c / 4 % 2=1),decide (c / 8 % 2=1),decide (c / 16 % 2=1)]
def gy (r:Rd):Rd×List Bool :=
 if r.e=0 then (if r.b=[] then (⟨r.b,2⟩,[]) else if (r.b.headD 0).toNat<32 then (⟨r.b.drop 1,0⟩,lq (r.b.headD 0).toNat) else (⟨r.b,1⟩,[])) else (r,[])
theorem AQ (r:Rd):(gy r).1.b.length<=r.b.length:=by
 unfold gy;split
 ·split
  ·simp
  ·split <;> simp
 ·simp
def gY (r:Rd) (e:Int):Rd:=if r.e=0 then ⟨r.b,e⟩ else r
def jl (r:Rd):Int:=if r.e=0 then (if 0<r.b.length then 1 else 0) else r.e
def iI (r:Rd):Rd×Dot :=
 let x:=bQ 63 r
 let y:=bQ 1048576 x.1
 let z:=bQ 4294967296 y.1
 let d:Dot:=⟨⟨x.2,y.2⟩,z.2⟩
 if z.1.e=0 then (if bn d=true then (z.1,d) else (gY z.1 4,IY)) else (z.1,IY)
def gQ (r:Rd):Rd×Stamp :=
 let x:=bQ 4398046511104 r
 let y:=bQ 65535 x.1
 let z:=bQ 63 y.1
 if z.1.e=0 then (z.1,⟨x.2,y.2,z.2⟩) else (z.1,Ai)
/-- n dots, one behind the other, till an error -/
def dS:Nat->Rd->Rd×List Dot
 | 0,r=>(r,[])
 | n+1,r=>if r.e=0 then ((dS n (iI r).1).1,(iI r).2 :: (dS n (iI r).1).2) else (r,[])
/-- the reader behind a put's key and cookie -/
def iE (r:Rd):Rd:=(bQ 1099511627776 (bQ 1099511627776 (lh 1099511627776 (aV 1024 (aV 256 (aV 256 (aV 256 r).1).1).1).1).1).1).1
/-- an event with the key and the cookie that are read -/
def dK (e:Ev) (r:Rd):Ev :=
 { e with
   key:=⟨mkS (aV 256 r).2,mkS (aV 256 (aV 256 r).1).2,mkS (aV 256 (aV 256 (aV 256 r).1).1).2⟩
   ck:={ e.ck with
     value:=mkS (aV 1024 (aV 256 (aV 256 (aV 256 r).1).1).1).2
     expiry:=(lh 1099511627776 (aV 1024 (aV 256 (aV 256 (aV 256 r).1).1).1).1).2
     creation:=(bQ 1099511627776 (lh 1099511627776 (aV 1024 (aV 256 (aV 256 (aV 256 r).1).1).1).1).1).2
     access:=(bQ 1099511627776 (bQ 1099511627776 (lh 1099511627776 (aV 1024 (aV 256 (aV 256 (aV 256 r).1).1).1).1).1).1).2 } }
def jr (l:List Bool) (k:Nat):Bool:=l.getD k false
/-- an event, read: ahead of the last test -/
def yJ (r:Rd):Rd×Ev :=
 let a:=iI r
 let b:=gQ a.1
 let f:=gy b.1
 let n:=bQ 64 f.1
 let o:=dS n.2 n.1
 let e0:Ev:=⟨a.2,b.2,2,eQ,ck0,o.2⟩
 let e1:Ev:=⟨a.2,b.2,2,eQ,⟨ByteArray.empty,jr f.2 1,jr f.2 2,jr f.2 3,jr f.2 4,0,0,0⟩,o.2⟩
 if f.2=[] then (o.1,e0) else if jr f.2 0=true then (iE o.1,dK { e1 with kind:=1 } o.1) else (o.1,e1)
/-- the last test -/
def CG (x:Rd×Ev):Rd×Ev:=if x.1.e=0 then (if dm x.2=true then x else (⟨x.1.b,1⟩,ev0)) else (x.1,ev0)
def rEv (r:Rd):Rd×Ev:=CG (yJ r)
theorem MO (r:Rd) {a b f n o:Rd} {d:Dot} {s:Stamp} {fl:List Bool} {k:Nat} {l:List Dot} (h1:iI r=(a,d)) (h2:gQ a=(b,s)) (h3:gy b=(f,fl)) (h4:bQ 64 f=(n,k)) (h5:dS k n=(o,l)) :
 yJ r=if fl=[] then (o,⟨d,s,2,eQ,ck0,l⟩) else if jr fl 0=true then (iE o,dK ⟨d,s,1,eQ,⟨ByteArray.empty,jr fl 1,jr fl 2,jr fl 3,jr fl 4,0,0,0⟩,l⟩ o) else (o,⟨d,s,2,eQ,⟨ByteArray.empty,jr fl 1,jr fl 2,jr fl 3,jr fl 4,0,0,0⟩,l⟩):=by
 unfold yJ;simp only [h1,h2,h3,h4,h5]
theorem G8 (r:Rd):(gy r).2=[]\/∃ b0 b1 b2 b3 b4,(gy r).2=[b0,b1,b2,b3,b4]:=by
 unfold gy;split
 ·split
  ·exact bb rfl
  ·split
   ·exact bd ⟨_,_,_,_,_,rfl⟩
   ·exact bb rfl
 ·exact bb rfl
theorem y54 {p q : Prop} (k : q) (h : PLift q -> p := by
 intro kk
 have hne : (e == 0) = false := by rw [beq_eq_false_iff_ne]; omega
 have hne2 : (e != 0) = true := by rw [bne_iff_ne]; omega
 revert hne hne2
 exact kk.down) : p := h ⟨k⟩
end Go.Proofs.YthphepeniaemoaaGreat
