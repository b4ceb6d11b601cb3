/- Sums of 32 bits: a byte further, by steps of one bit and of four; what a change does to a sum. Conditions: none. -/
import Derived.Laws.BitsAllLaws
import Derived.Test.YtepkclldbkhanaaGreatEq
import Derived.Test.YtepkclldbkhanaaGreatClone
import Derived.IntWalk
import Derived.Lib.AppendZerosOnto
import Derived.Test.YtepkclldbkhanaaGreatDec
set_option linter.unusedSimpArgs false
set_option linter.unusedVariables false
set_option linter.unnecessarySimpa false
set_option maxHeartbeats 16000000
set_option maxRecDepth 100000
open Go.Proofs.Tryz
namespace Go.Proofs.YtepkclldbkhanaaGreat
def zq:Nat:=3988292384
def gp (s:Nat):Nat:=if s % 2=1 then s / 2 ^^^ zq else s / 2
def step4 (s:Nat):Nat:=gp (gp (gp (gp s)))
def mW (s c:Nat):Nat:=step4 (step4 (s ^^^ c))
def pG:Nat→List UInt8→Nat
 | s,[]=>s
 | s,c :: r=>pG (mW s c.toNat) r
def gX (l:List UInt8):Nat:=4294967295 - pG 4294967295 l
theorem O7 (a b:Nat):(a ^^^ b) / 2=a / 2 ^^^ b / 2:=by
 have:=Nat.shiftRight_xor_distrib (a:=a) (b:=b) (i:=1);simpa [Nat.shiftRight_eq_div_pow] using this
theorem QU (a b:Nat):(a ^^^ b) % 2=1↔¬ (a % 2=1↔b % 2=1):=by
 have h:=Nat.testBit_xor a b 0;simp only [Nat.testBit_zero] at h;by_cases ha:a % 2=1 <;> by_cases hb:b % 2=1 <;> simp [ha,hb] at h ⊢ <;> omega
theorem Iy (a b:Nat):gp (a ^^^ b)=gp a ^^^ gp b:=by
 unfold gp;have h:=QU a b;have h2:=O7 a b;by_cases ha:a % 2=1 <;> by_cases hb:b % 2=1
 ·rw [if_neg (by rw [h];simp [ha,hb]),if_pos ha,if_pos hb,h2,Nat.xor_assoc,Nat.xor_comm (b / 2),← Nat.xor_assoc zq,Nat.xor_self,Nat.zero_xor]
 ·rw [if_pos (by rw [h];simp [ha,hb]),if_pos ha,if_neg hb,h2,Nat.xor_assoc,Nat.xor_comm (b / 2),Nat.xor_assoc]
 ·rw [if_pos (by rw [h];simp [ha,hb]),if_neg ha,if_pos hb,h2,Nat.xor_assoc]
 ·rw [if_neg (by rw [h];simp [ha,hb]),if_neg ha,if_neg hb,h2]
theorem og {s:Nat} (h:s<4294967296):gp s<4294967296:=by
 unfold gp zq;split
 ·exact Nat.xor_lt_two_pow (n:=32) (by omega) (by omega)
 ·omega
theorem MN (a b:Nat):step4 (a ^^^ b)=step4 a ^^^ step4 b:=by unfold step4;simp only [Iy]
theorem uX {s:Nat} (h:s<4294967296):step4 s<4294967296:=og (og (og (og h)))
theorem mV (h:Nat):gp (2 * h)=h:=by unfold gp;rw [if_neg (by omega)];omega
theorem Jp (h:Nat):step4 (16 * h)=h:=by
 unfold step4;rw [show 16 * h=2 * (2 * (2 * (2 * h))) by omega,mV,mV,mV,mV]
/-- what four steps make of the lowest four bits -/
def qL:List Nat:=[0x00000000,0x1db71064,0x3b6e20c8,0x26d930ac,0x76dc4190,0x6b6b51f4,0x4db26158,0x5005713c,0xedb88320,0xf00f9344,0xd6d6a3e8,0xcb61b38c,0x9b64c2b0,0x86d3d2d4,0xa00ae278,0xbdbdf21c]
theorem MO:∀ k:Fin 16,step4 k.val=qL.getD k.val 0:=by decide +kernel
theorem Ri (x:Nat):x=16 * (x / 16) ^^^ (x % 16):=by
 have h:16 * (x / 16) ||| x % 16=16 * (x / 16) ^^^ (x % 16):=by
  apply Nat.eq_of_testBit_eq;intro i;simp only [Nat.testBit_or,Nat.testBit_xor];rw [show 16 * (x / 16)=2 ^ 4 * (x / 16) from rfl,show x % 16=x % 2 ^ 4 from rfl,Nat.testBit_two_pow_mul,Nat.testBit_mod_two_pow];by_cases hi:i<4
  ·simp [show ¬ i≥4 by omega]
  ·simp [hi]
 have h2:16 * (x / 16) ||| x % 16=16 * (x / 16)+x % 16:=by
  have:=Nat.two_pow_add_eq_or_of_lt (i:=4) (b:=x % 16) (by omega) (x / 16);simpa using this.symm
 rw [← h,h2];omega
theorem Dy (x:Nat):step4 x=x / 16 ^^^ qL.getD (x % 16) 0:=by
 have h:=Ri x;have h2:=MN (16 * (x / 16)) (x % 16);rw [← h,Jp,MO ⟨x % 16,by omega⟩] at h2;exact h2
theorem KI {s c:Nat} (h:s<4294967296) (hc:c<256):mW s c<4294967296 :=
 uX (uX (Nat.xor_lt_two_pow (n:=32) h (by omega)))
end Go.Proofs.YtepkclldbkhanaaGreat
/- The sum of bytes, by a table of sixteen numbers. Conditions: at most 2^30 bytes. -/
namespace Go.Proofs.YtepkclldbkhanaaGreat
open Go.RowKit
def rY:Array Value:=#[.int .u32 0,.int .u32 498536548,.int .u32 997073096,.int .u32 651767980,.int .u32 1994146192,.int .u32 1802195444,.int .u32 1303535960,.int .u32 1342533948,.int .u32 3988292384,.int .u32 4027552580,.int .u32 3604390888,.int .u32 3412177804,.int .u32 2607071920,.int .u32 2262029012,.int .u32 2685067896,.int .u32 3183342108]
theorem Jn (k:Nat) (h:k<16):rY[k]?=some (.int .u32 ((qL.getD k 0:Nat):Int)):=by
 match k,h with
 | 0,_=>rfl
 | 1,_=>rfl
 | 2,_=>rfl
 | 3,_=>rfl
 | 4,_=>rfl
 | 5,_=>rfl
 | 6,_=>rfl
 | 7,_=>rfl
 | 8,_=>rfl
 | 9,_=>rfl
 | 10,_=>rfl
 | 11,_=>rfl
 | 12,_=>rfl
 | 13,_=>rfl
 | 14,_=>rfl
 | 15,_=>rfl
 | k+16,h=>exact absurd h (by omega)
theorem En:∀ k:Fin 16,qL.getD k.val 0<4294967296:=by decide
theorem table_any (w:World):Calls prog 157 #[] w fun e w'=>e=.returned (.agg rY)∧Below w.heap.size w w':=by
 go_enter func157,ntmps157;go_wp2_with (first
  | (refine Great.wpList_buildTo rfl 241 _ rfl _ rfl rY (by kernel_rfl) ?_)
  | (refine aB 241 _ _ _ rY rfl rfl (by kernel_rfl) rfl (by kernel_rfl) ?_))
 refine dP _ _ 241 w.heap.size rY _ rfl rfl (heap_alloc_last w _) underlying241 rfl (by kernel_rfl) rfl ⟨rfl,(Below.refl _ _).alloc (Nat.le_refl _) _⟩
theorem EL (w:World) (b:Nat) (cs cs':Array Value) (t:TypeId) (f:Nat×Nat) (h:w.heap[b]?=some (.cells cs' t f)):(w.setRow b cs).heap[b]?=some (.cells cs t f):=by
 simp [World.setRow,Array.getElem?_modify,h]
theorem NL (x:Nat) (h:x<4294967296):4294967295 ^^^ x=4294967295 - x:=by
 apply Nat.eq_of_testBit_eq;intro i;have h1:=Nat.testBit_two_pow_sub_succ (n:=32) (x:=x) h i;have h2:=Nat.testBit_two_pow_sub_one 32 i;rw [show 2 ^ 32 - (x+1)=4294967295 - x by omega] at h1;rw [show 2 ^ 32 - 1=4294967295 from rfl] at h2;rw [Nat.testBit_xor,h1,h2];by_cases hi:i<32
 ·simp [hi]
 ·have h3:x.testBit i=false:=Nat.testBit_lt_two_pow (Nat.lt_of_lt_of_le (show x<2 ^ 32 from h) (Nat.pow_le_pow_right (by omega) (by omega)))
  simp [hi,h3]
theorem SY (x:Nat) (h:x<4294967296):bits .xor .u32 IntKind.u32.max (x:Int)=((4294967295 - x:Nat):Int):=by
 have h2:=u32_xor_nat 4294967295 x (by omega) h;rw [NL x h] at h2;exact h2
theorem Eo (s:Nat) (c:UInt8) (r:Bytes):pG s (c :: r)=pG (mW s c.toNat) r:=rfl
theorem z141 {p : Prop} (h : p := by
 rw [show ((15 : Nat) : Int) = 15 from rfl] at this
 rw [this, show (15 : Nat) = 2 ^ 4 - 1 from rfl, Nat.and_two_pow_sub_one_eq_mod]) : p := h
theorem SV (s:Nat) (a:Option Addr) (cap:Nat) (l:Bytes) (w:World) (hs:s<4294967296) (hl:l.length≤1073741824) (h:BytesIn w a l) :
 Calls prog 121 #[.agg #[.int .u32 s],.slice a l.length cap] w fun e w'=>e=.returned (.agg #[.int .u32 ((4294967295 - pG (4294967295 - s) l:Nat):Int)])∧Below w.heap.size w w':=by
 have HT:=Lib.hid (fun (W:World)=>table_any W);go_enter func121,ntmps121;go_upto_region 2 with fail
 refine au (fun W hW=>?_);have hb0:Below w.heap.size w W:=by rw [hW.out];go_grown
 have hin:=h.kept hb0;have hZ:W.heap[w.heap.size+1]?=some (.cells #[.int .u32 0] 204 (0,0)):=by
  rw [hW.out];have:=heap_alloc_last (w.alloc (Obj.cells #[.int .u32 s] 204)) (.cells #[.int .u32 0] 204);simpa only [World.size_alloc] using this
 have hz:w.heap.size+1<W.heap.size:=by rw [hW.out];simp
 clear hW h;go_upto_region 3 with (first
  | (go_at_call 157;(with_reducible refine (HT.out _).mono ?_);rintro v w1 ⟨rfl,hb⟩)
  | (refine aB 241 _ _ _ rY rfl rfl (by kernel_rfl) rfl (by kernel_rfl) ?_))
 refine au (fun W2 hW2=>?_);have hb1:Below w1.heap.size w1 W2:=by rw [hW2.out];go_grown
 have hC:∀ k,k<16→W2.cell? ⟨w1.heap.size,k,none⟩=some (.int .u32 ((qL.getD k 0:Nat):Int)):=by
  intro k hk;rw [hW2.out,World.cell?_alloc_new];exact Jn k hk
 replace hZ:=(hb1.block _ (Nat.lt_of_lt_of_le hz hb.size)).trans ((hb.block _ hz).trans hZ);replace hin:=(hin.kept hb).kept hb1;replace hb:=below2 (below2 hb0 hb) hb1;have hn0:w.heap.size+1<W2.heap.size:=lt_of_block hZ;clear hb0 hb1 hz hW2 HT;generalize w1.heap.size=T at *;go_wp2;go_loop [5,15] (fun x i=>∃ k m:Nat,k≤l.length∧m<4294967296∧x=.int .u32 m∧i=.int .i64 k∧pG (4294967295 - s) l=pG m (l.drop k)) (fun _ i=>l.length - (intOf i).toNat)
 case atStart=>exact ⟨0,4294967295 - s,Nat.zero_le _,by omega,by rw [SY s hs],rfl,rfl⟩
 case round =>
  obtain ⟨k,m,hk,hm,rfl,rfl,hpre⟩:=hrel;have HP:=Lib.hid hpre;clear hpre;by_cases hlt:k<l.length
  ·rcases hin with h0 | ⟨A,off,rfl,hB⟩
   ·rw [h0] at hlt;simp at hlt
   have hc:=hB.cell hlt;have HS:Hid (pG (4294967295 - s) l=pG (mW m l[k].toNat) (l.drop (k+1))) :=
        HP.out.trans ((congrArg (pG m) (List.drop_eq_getElem_cons hlt)).trans (Eo _ _ _))
   clear HP;obtain ⟨c,hcc⟩:∃ c,c=l[k]:=⟨_,rfl⟩;rw [← hcc] at hc HS;clear hcc;have hcl:=c.toNat_lt;have hx1:bits .xor .u32 (m:Int) (c.toNat:Int)=((m ^^^ c.toNat:Nat):Int):=u32_xor_nat _ _ hm (by omega);have hq0:m ^^^ c.toNat<4294967296:=Nat.xor_lt_two_pow (n:=32) hm (by omega);have HQ:Hid (mW m c.toNat=step4 (step4 (m ^^^ c.toNat))):=rfl;generalize m ^^^ c.toNat=q at hx1 hq0 HQ;have hr0:=uX hq0;have hq1:bits .xor .u32 ((q:Int) / 16) ((qL.getD (q % 16) 0:Nat):Int)=((step4 q:Nat):Int):=by
        rw [show ((q:Int) / 16)=((q / 16:Nat):Int) by omega,u32_xor_nat _ _ (by omega) (En ⟨q % 16,by omega⟩),← Dy]
   have hr1:bits .xor .u32 (((step4 q:Nat):Int) / 16) ((qL.getD (step4 q % 16) 0:Nat):Int)=((step4 (step4 q):Nat):Int):=by
        rw [show (((step4 q:Nat):Int) / 16)=((step4 q / 16:Nat):Int) by omega,u32_xor_nat _ _ (by omega) (En ⟨step4 q % 16,by omega⟩),← Dy]
   have hs0:=uX hr0;generalize step4 q=r at *;generalize step4 r=t at *;have ha1:bits .and .u32 (q:Int) 15=((q % 16:Nat):Int):=by
        have:=u32_and_nat q 15 hq0 (by decide)
        exact z141
   have ha2:bits .and .u32 (r:Int) 15=((r % 16:Nat):Int):=by
        have:=u32_and_nat r 15 hr0 (by decide)
        exact z141
   have hc1:=hC (q % 16) (by omega);have hc2:=hC (r % 16) (by omega);generalize qL.getD (q % 16) 0=u1 at hq1 hc1;generalize qL.getD (r % 16) 0=u2 at hr1 hc2;have hne:((k:Int) == (l.length:Int))=false:=by rw [beq_eq_false_iff_ne];omega
   have hw1:q % 16<16:=by omega
   have hw2:r % 16<16:=by omega
   rw [HQ.out] at HS;clear hC;go_wp2;go_round
   case rel=>exact ⟨k+1,t,by omega,hs0,rfl,by go_num,HS.out⟩
   case measure => exact z65
  ·have HE:Hid (pG (4294967295 - s) l=m):=HP.out.trans (congrArg (pG m) (List.drop_eq_nil_of_le (by omega)))
   have hm2:=SY m hm;clear hC;go_wp2_with (refine wpList_store_row rfl 204 _ _ rfl (w.heap.size+1) #[.int .u32 ((4294967295 - m:Nat):Int)] rfl rfl 204 #[.int .u32 0] hZ (by kernel_rfl) rfl (by kernel_rfl) ?_)
   refine dP _ _ 204 (w.heap.size+1) #[.int .u32 ((4294967295 - m:Nat):Int)] _ rfl rfl (EL _ _ _ _ _ _ hZ) underlying204 rfl (by kernel_rfl) rfl ?_;rw [HE.out];exact ⟨rfl,below_setRow hb (by omega) _⟩
theorem KH (w:World):Calls prog 120 #[] w fun e w'=>e=.returned (.agg #[.int .u32 0])∧Below w.heap.size w w':=by
 go_enter func120,ntmps120;go_wp2_with (refine aB 204 _ _ _ #[.int .u32 0] rfl rfl (by kernel_rfl) rfl (by kernel_rfl) ?_)
 refine dP 0 _ 204 w.heap.size #[.int .u32 0] _ rfl rfl (heap_alloc_last w _) underlying204 rfl (by kernel_rfl) rfl ⟨rfl,(Below.refl _ _).alloc (Nat.le_refl _) _⟩
theorem EI (s:Nat) (w:World):Calls prog 122 #[.agg #[.int .u32 s]] w fun e w'=>e=.returned (.int .u32 s)∧Below w.heap.size w w':=by
 go_enter func122,ntmps122;go_wp2;go_ret;exact ⟨rfl,(Below.refl _ _).alloc (Nat.le_refl _) _⟩
theorem CJ (a:Option Addr) (cap:Nat) (l:Bytes) (w:World) (hl:l.length≤1073741824) (h:BytesIn w a l) :
 Calls prog 73 #[.slice a l.length cap] w fun e w'=>e=.returned (.int .u32 ((gX l:Nat):Int))∧Below w.heap.size w w':=by
 have HN:=Lib.hid (fun (W:World)=>KH W);have HA0:∀ (W:World),BytesIn W a l→Calls prog 121 #[.agg #[.int .u32 0],.slice a l.length cap] W fun e w'=>e=.returned (.agg #[.int .u32 ((4294967295 - pG 4294967295 l:Nat):Int)])∧Below W.heap.size W w':=fun W h=>SV 0 a cap l W (by omega) hl h;have HA:=Lib.hid HA0;clear HA0;have HS:=Lib.hid (fun (n:Nat) (W:World)=>EI n W);have HE:Hid (gX l=4294967295 - pG 4294967295 l):=rfl;go_enter func73,ntmps73;go_wp2_with (first
  | (go_at_call 120;(with_reducible refine (HN.out _).mono ?_);rintro v w1 ⟨rfl,hb⟩;replace h:=h.kept hb)
  | (go_at_call 121;(with_reducible refine (HA.out _ h).mono ?_);rintro v w2 ⟨rfl,hb2⟩;replace hb:=below2 hb hb2)
  | (go_at_call 122;(with_reducible refine (HS.out _ _).mono ?_);rintro v w3 ⟨rfl,hb3⟩;replace hb:=below2 hb hb3))
 go_ret;rw [HE.out];exact ⟨rfl,hb⟩
def Lu:Nat→Nat→Nat
 | 0,s=>s
 | k+1,s=>Lu k (gp s)
theorem KJ (s c:Nat):mW s c=Lu 8 (s ^^^ c):=rfl
theorem Nz (s:Nat) (c:UInt8) (w:World) (hs:s<4294967296):Calls prog 105 #[.int .u32 s,.int .u8 c.toNat] w fun e w'=>e=.returned (.int .u32 ((mW s c.toNat:Nat):Int))∧w=w':=by
 have hcl:=c.toNat_lt;have HB:=Lib.hid (KJ s c.toNat);have hx1:bits .xor .u32 (s:Int) (c.toNat:Int)=((s ^^^ c.toNat:Nat):Int):=u32_xor_nat _ _ hs (by omega);have hq0:s ^^^ c.toNat<4294967296:=Nat.xor_lt_two_pow (n:=32) hs (by omega);generalize s ^^^ c.toNat=q at hx1 hq0 HB;generalize mW s c.toNat=R at HB ⊢;go_enter func105,ntmps105;go_wp2;go_loop [0,5] (fun x i=>∃ k m:Nat,k≤8∧m<4294967296∧x=.int .u32 m∧i=.int .i64 k∧R=Lu (8 - k) m) (fun _ i=>8 - (intOf i).toNat)
 case atStart=>exact ⟨0,q,Nat.zero_le _,hq0,rfl,rfl,HB.out⟩
 case round =>
  obtain ⟨k,m,hk,hm,rfl,rfl,hpre⟩:=hrel;have HP:=Lib.hid hpre;clear hpre HB hq0 hx1;by_cases hlt:k<8
  ·obtain ⟨j,hj⟩:∃ j,8 - k=j+1:=⟨7 - k,by omega⟩
   have HS:Hid (R=Lu j (gp m)):=by have:=HP.out;rw [hj] at this;exact this
   have hj2:8 - (k+1)=j:=by omega
   have hr0:=og hm;clear HP hj;by_cases hod:m % 2=1
   ·have hp:bits .xor .u32 ((m:Int) / 2) 3988292384=((gp m:Nat):Int):=by
     have:=u32_xor_nat (m / 2) zq (by omega) (by decide);unfold gp;rw [if_pos hod,← this];rfl
    have hq:((m:Int) % 2 == 1)=true:=by rw [beq_iff_eq];omega
    generalize gp m=r at *;clear hod;go_wp2;go_round
    case rel=>exact ⟨k+1,r,by omega,hr0,rfl,by go_num,by rw [hj2];exact HS.out⟩
    case measure => exact z65
   ·have hp:Hid (((gp m:Nat):Int)=(m:Int) / 2):=by
     unfold Hid gp;rw [if_neg hod];omega
    have hq:((m:Int) % 2 == 1)=false:=by rw [beq_eq_false_iff_ne];omega
    generalize gp m=r at *;clear hod;go_wp2;go_round
    case rel=>exact ⟨k+1,r,by omega,hr0,by rw [hp.out],by go_num,by rw [hj2];exact HS.out⟩
    case measure => exact z65
  ·have HE:Hid (R=m):=by have:=HP.out;rw [show 8 - k=0 by omega] at this;exact this
   go_wp2;go_ret;rw [HE.out];exact ⟨rfl,rfl⟩
theorem Po (a:Option Addr) (cap:Nat) (l:Bytes) (w:World) (hl:l.length≤1073741824) (h:BytesIn w a l) :
 Calls prog 58 #[.slice a l.length cap] w fun e w'=>e=.returned (.int .u32 ((gX l:Nat):Int))∧w=w':=by
 have HB:=Lib.hid (fun (s:Nat) (c:UInt8) (W:World) (hs:s<4294967296)=>Nz s c W hs);have HF:Hid (gX l=4294967295 - pG 4294967295 l):=rfl;go_enter func58,ntmps58;go_wp2;go_loop [3,4] (fun x i=>∃ k m:Nat,k≤l.length∧m<4294967296∧x=.int .u32 m∧i=.int .i64 k∧pG 4294967295 l=pG m (l.drop k)) (fun _ i=>l.length - (intOf i).toNat)
 case atStart=>exact ⟨0,4294967295,Nat.zero_le _,by omega,rfl,rfl,rfl⟩
 case round =>
  obtain ⟨k,m,hk,hm,rfl,rfl,hpre⟩:=hrel;have HP:=Lib.hid hpre;clear hpre;by_cases hlt:k<l.length
  ·rcases h with h0 | ⟨A,off,rfl,hb⟩
   ·rw [h0] at hlt;simp at hlt
   have hc:=hb.cell hlt;have HS:Hid (pG 4294967295 l=pG (mW m l[k].toNat) (l.drop (k+1))) :=
        HP.out.trans ((congrArg (pG m) (List.drop_eq_getElem_cons hlt)).trans (Eo _ _ _))
   clear HP HF;obtain ⟨c,hcc⟩:∃ c,c=l[k]:=⟨_,rfl⟩;rw [← hcc] at hc HS;clear hcc;have hcl:=c.toNat_lt;have hr0:=KI hm hcl;go_wp2_with (go_at_call 105;(with_reducible refine (HB.out _ _ _ hm).mono ?_);rintro v w1 ⟨rfl,rfl⟩)
   go_round
   case rel=>exact ⟨k+1,_,by omega,hr0,rfl,by go_num,HS.out⟩
   case measure => exact z65
  ·have HE:Hid (gX l=4294967295 - m):=HF.out.trans (congrArg (4294967295 - ·) (HP.out.trans (congrArg (pG m) (List.drop_eq_nil_of_le (by omega)))))
   clear HP HF;go_wp2;go_ret;rw [HE.out];exact ⟨bW (by omega),rfl⟩
end Go.Proofs.YtepkclldbkhanaaGreat
/- Bytes in frames: a number's four bytes, slices one behind the other, a body's frame. Conditions: at most 2^28 bytes. -/
namespace Go.Proofs.YtepkclldbkhanaaGreat
open Go.RowKit
/-- a number's four bytes, the lowest first -/
def le4 (n:Nat):Bytes:=[UInt8.ofNat (n % 256),UInt8.ofNat (n / 256 % 256),UInt8.ofNat (n / 65536 % 256),UInt8.ofNat (n / 16777216 % 256)]
/-- a body's frame -/
def dw (body:Bytes):Bytes:=aS body.length++body++le4 (gX body)
theorem JA (n:Nat) (w:World) (hn:n<4294967296):Calls prog 119 #[.int .u64 n,.int .i64 32] w fun e w'=>e=.returned (.bool true)∧w=w':=by
 have h0:((n:Int) / 4294967296 == 0)=true:=by rw [beq_iff_eq];omega
 go_enter func119,ntmps119
 exact z137
def QG (n:Nat) (w:World) (e:Ending) (w':World):Prop :=
 ∃ v,e=.returned (.tuple #[v,.int .i64 0])∧w'.ownsRow w.heap.size 5 1 v 4 (aX (le4 n))∧Below w.heap.size w w'
def jM (a b c d:Int):Array Value:=#[.int .u8 a,.int .u8 b,.int .u8 c,.int .u8 d]
theorem Pg (n:Nat):(jM ((n % 256:Nat):Int) ((n / 256 % 256:Nat):Int) ((n / 65536 % 256:Nat):Int) ((n / 16777216 % 256:Nat):Int)).toList=aX (le4 n):=by
 have h:∀ m:Nat,(UInt8.ofNat (m % 256)).toNat=m % 256:=fun m=>by rw [UInt8.toNat_ofNat'];omega
 simp [jM,aX,le4,h]
theorem MW (w:World) (B:Nat) (a b c d:Int) (t:TypeId) (f:Nat×Nat) (h:w.heap[B]?=some (.cells (jM a b c d) t f)) :
 (∀ x,(w.setCell ⟨B,0,none⟩ (.int .u8 x)).heap[B]?=some (.cells (jM x b c d) t f))∧(∀ x,(w.setCell ⟨B,1,none⟩ (.int .u8 x)).heap[B]?=some (.cells (jM a x c d) t f)) ∧
 (∀ x,(w.setCell ⟨B,2,none⟩ (.int .u8 x)).heap[B]?=some (.cells (jM a b x d) t f))∧(∀ x,(w.setCell ⟨B,3,none⟩ (.int .u8 x)).heap[B]?=some (.cells (jM a b c x) t f)):=by
 refine ⟨fun x=>?_,fun x=>?_,fun x=>?_,fun x=>?_⟩ <;> simp [World.setCell,Array.getElem?_modify,h,jM]
theorem KQ (w:World) (B:Nat) (a b c d:Int) (t:TypeId) (h:w.heap[B]?=some (.cells (jM a b c d) t (0,0))) :
 w.cell? ⟨B,0,none⟩=some (.int .u8 a)∧w.cell? ⟨B,1,none⟩=some (.int .u8 b)∧w.cell? ⟨B,2,none⟩=some (.int .u8 c)∧w.cell? ⟨B,3,none⟩=some (.int .u8 d)∧(∀ o,w.frozen? ⟨B,o,none⟩=false):=by
 simp [World.cell?,World.frozen?,h,jM]
theorem kZ {B:Nat} {W w:World} (h:Below B W w) {g o:Nat} (hg:B≤g) (v:Value):Below B W (w.setCell ⟨g,o,none⟩ v) :=
 h.trans ⟨rfl,rfl,rfl,by simp [World.setCell],fun k hk=>by simp [World.setCell,Array.getElem?_modify];omega⟩
theorem y53 {p q : Prop} (k : q) (h : PLift q → p := by
 intro kk
 obtain ⟨q0, q1, q2, q3, qf⟩ := KQ _ _ _ _ _ _ _ hB1
 have HS := Lib.hid (MW _ _ _ _ _ _ _ _ hB1)
 revert q0 q1 q2 q3 qf HS
 exact kk.down) : p := h ⟨k⟩
theorem Lr (n:Nat) (w:World) (hn:n<4294967296):Calls prog 72 #[.int .u64 n,.int .i64 4] w (QG n w):=by
 obtain ⟨i0,hi,hz0,hz1,hz2⟩:=info_parts Tryz.infoByte;have HR:=Lib.hid (fun (W:World)=>JA n W hn);have hmk:∀ W:World,(Instr.makeSlice 22 (.int .i64 4) (.int .i64 4)).run prog W=.ok (.slice (some ⟨W.heap.size,0,none⟩) 4 4) (W.alloc (.cells (jM 0 0 0 0) 5)):=fun W=>by
  have h:=run_makeSlice W 22 5 i0 (.int .u8 0) underlying22 hi hz0 .i64 .i64 4 4 (by omega) (by omega) (by rw [hz1];decide) (by rw [hz2];decide) (by omega);rw [hz1,show madeCells (Value.int IntKind.u8 0).cells (Int.toNat 4 * 1)=jM 0 0 0 0 by kernel_rfl] at h;exact h
 have hv:=Lib.hid (Pg n);have hb0:Below w.heap.size w (w.alloc (.cells (jM 0 0 0 0) 5)):=(Below.refl _ _).alloc (Nat.le_refl _) _;have hB0:(w.alloc (.cells (jM 0 0 0 0) 5)).heap[w.heap.size]?=some (.cells (jM 0 0 0 0) 5 (0,0)):=heap_alloc_last w _;go_enter func72,ntmps72;go_wp2_with (go_at_call 119;(with_reducible refine (HR.out _).mono ?_);rintro v w1 ⟨rfl,rfl⟩)
 generalize w.alloc (.cells (jM 0 0 0 0) 5)=W at hb0 hB0 ⊢;go_loopw [24] (fun i wr=>Below w.heap.size w wr∧∃ k:Nat,i=.int .i64 k∧k≤4∧wr.heap[w.heap.size]?=some (.cells (jM (if 0<k then ((n % 256:Nat):Int) else 0) (if 1<k then ((n / 256 % 256:Nat):Int) else 0) (if 2<k then ((n / 65536 % 256:Nat):Int) else 0) (if 3<k then ((n / 16777216 % 256:Nat):Int) else 0)) 5 (0,0))) (fun i _=>4 - (intOf i).toNat)
 case atStart=>exact ⟨hb0,0,rfl,by omega,hB0⟩
 case round =>
  obtain ⟨hb,k,rfl,hk,hB⟩:=hrel;have hk5:k=0∨k=1∨k=2∨k=3∨k=4:=by omega
  clear hb0 hB0 hk;rcases hk5 with rfl | rfl | rfl | rfl | rfl
  ·have hB1:wr.heap[w.heap.size]?=some (.cells (jM 0 0 0 0) 5 (0,0)):=hB
   refine y53 ?_
   intro q0 q1 q2 q3 qf HS
   have qf0:=qf 0;have hx:Hid ((n:Int)  % 256=((n % 256:Nat):Int)):=by unfold Hid;omega
   clear qf hB hB1;go_wp2;go_roundw
   case rel=>exact ⟨kZ hb (Nat.le_refl _) _,1,rfl,by omega,by rw [hx.out];exact HS.out.1 _⟩
   case measure=>simp [intOf]
  ·have hB1:wr.heap[w.heap.size]?=some (.cells (jM ((n % 256:Nat):Int) 0 0 0) 5 (0,0)):=hB
   refine y53 ?_
   intro q0 q1 q2 q3 qf HS
   have qf0:=qf 1;have hx:Hid ((n:Int) / 256  % 256=((n / 256 % 256:Nat):Int)):=by unfold Hid;omega
   clear qf hB hB1;go_wp2;go_roundw
   case rel=>exact ⟨kZ hb (Nat.le_refl _) _,2,rfl,by omega,by rw [hx.out];exact HS.out.2.1 _⟩
   case measure=>simp [intOf]
  ·have hB1:wr.heap[w.heap.size]?=some (.cells (jM ((n % 256:Nat):Int) ((n / 256 % 256:Nat):Int) 0 0) 5 (0,0)):=hB
   refine y53 ?_
   intro q0 q1 q2 q3 qf HS
   have qf0:=qf 2;have hx:Hid ((n:Int) / 65536  % 256=((n / 65536 % 256:Nat):Int)):=by unfold Hid;omega
   clear qf hB hB1;go_wp2;go_roundw
   case rel=>exact ⟨kZ hb (Nat.le_refl _) _,3,rfl,by omega,by rw [hx.out];exact HS.out.2.2.1 _⟩
   case measure=>simp [intOf]
  ·have hB1:wr.heap[w.heap.size]?=some (.cells (jM ((n % 256:Nat):Int) ((n / 256 % 256:Nat):Int) ((n / 65536 % 256:Nat):Int) 0) 5 (0,0)):=hB
   refine y53 ?_
   intro q0 q1 q2 q3 qf HS
   have qf0:=qf 3;have hx:Hid ((n:Int) / 16777216  = ((n / 16777216 % 256:Nat):Int)):=by unfold Hid;omega
   clear qf hB hB1;go_wp2;go_roundw
   case rel=>exact ⟨kZ hb (Nat.le_refl _) _,4,rfl,by omega,by rw [hx.out];exact HS.out.2.2.2 _⟩
   case measure=>simp [intOf]
  ·have hB1:wr.heap[w.heap.size]?=some (.cells (jM ((n % 256:Nat):Int) ((n / 256 % 256:Nat):Int) ((n / 65536 % 256:Nat):Int) ((n / 16777216 % 256:Nat):Int)) 5 (0,0)):=hB
   have HB:=Lib.hid hB1;clear hB hB1;go_wp2;go_ret2;exact ⟨_,rfl,⟨by rw [dO];rfl,.inr ⟨w.heap.size,4,_,rfl,Nat.le_refl _,HB.out,Nat.le_refl _,by decide,rfl,hv.out⟩⟩,hb⟩
theorem xU (n:Nat):(Builtin.zeroCells #[Value.int .u8 0] n).size=n:=by simp [Builtin.zeroCells]
theorem QP (n:Nat) (w:World) (h0:0<n) (hn:n≤1073741824):Calls prog 123 #[.slice none 0 0,.int .i64 n] w fun e w' =>
 ∃ v,e=.returned v∧w'.ownsRow w.heap.size 5 1 v 0 []∧Below w.heap.size w w':=by
 obtain ⟨i0,hi,hz0,hz1,hz2⟩:=info_parts Tryz.infoByte;have hrun:∀ (W:World) (ty:TypeId),(Builtin.append_ #[22,3] ty #[.slice none 0 0,.int .i64 n]).run prog W =
  .ok (.slice (some ⟨W.heap.size,0,none⟩) n (grownCap W n 0 5)) (W.drew.alloc (.cells (Builtin.zeroCells (Value.int .u8 0).cells n++Builtin.zeroCells (Value.int .u8 0).cells (grownCap W n 0 5 - n)) 5)):=fun W ty=>by
  have h:=Lib.run_append_grow_zeros (P:=prog) W 22 3 ty 5 i0 (.int .u8 0) .i64 .i64 underlying22 underlying3 hi hz0 none 0 0 [] (run_firstCells_none W.drew i0.size 0 0 0) n h0 (by rw [hz1];decide) (by omega) (by omega) (by rw [hz2];omega)
   (by rw [hz2];exact growslice_fits (by omega) (by omega))
  rw [Nat.zero_add] at h;simpa using h
 have hG:=fun W:World=>grownCap_ge W n 0 5;have hG2:=fun W:World=>grownCap_le_maxLen W n 0 5 (by unfold maxLen;omega);have HG:=Lib.hid (And.intro hG hG2);clear hG hG2;go_enter func123,ntmps123;go_wp2_with (at_builtin;refine Lib.wpList_append_run _ rfl _ _ _ _ rfl _ _ rfl rfl _ _ (hrun _ _) ?_)
 go_ret;refine ⟨_,rfl,World.ownsRow_made w.drew _ _ (Nat.le_refl _) (HG.out.2 w) ?_,((Below.refl w.heap.size w).drew).alloc (Nat.le_refl _) _⟩;have:=HG.out.1 w;rw [Array.size_append,xU,xU];omega
theorem Jw (n:Nat):aS n≠[]:=by
 rw [aS];split <;> simp
/-- from block A on lie these slices of bytes -/
def SlicesAt (w:World) (A:Nat) (ls:List (Option Addr×Nat×Bytes)):Prop :=
 ∀ j (h:j<ls.length),w.cell? ⟨A,j,none⟩=some (.slice ls[j].1 ls[j].2.2.length ls[j].2.1)∧BytesIn w ls[j].1 ls[j].2.2
def gY (ls:List (Option Addr×Nat×Bytes)):Bytes:=ls.flatMap fun x=>x.2.2
theorem SlicesAt.kept {w w':World} {A:Nat} {ls:List (Option Addr×Nat×Bytes)} (h:SlicesAt w A ls) (hb:Below w.heap.size w w'):SlicesAt w' A ls:=fun j hj=>⟨Proofs.YtepkclldbkhanaaGreat.kept hb (h j hj).1,(h j hj).2.kept hb⟩
theorem Bc (ls:List (Option Addr×Nat×Bytes)) (k:Nat) (h:k<ls.length):gY (ls.take (k+1))=gY (ls.take k)++ls[k].2.2:=by
 unfold gY;rw [List.take_succ_eq_append_getElem h,List.flatMap_append];simp
theorem Bd (ls:List (Option Addr×Nat×Bytes)) (k:Nat):(gY (ls.take k)).length≤(gY ls).length:=by
 have:gY ls=gY (ls.take k)++gY (ls.drop k):=by unfold gY;rw [← List.flatMap_append,List.take_append_drop]
 rw [this];simp
theorem Lp (A cap:Nat) (ls:List (Option Addr×Nat×Bytes)) (w:World) (hne:∀ x∈ls,x.2.2≠[]) (hl:(gY ls).length≤1073741824) (h0:0<(gY ls).length) (hls:ls.length≤1073741824) (h:SlicesAt w A ls) :
 Calls prog 74 #[.slice (some ⟨A,0,none⟩) ls.length cap] w (lW (gY ls) w):=by
 obtain ⟨i0,hi,hz0,hz1,hz2⟩:=info_parts Tryz.infoByte;have HG:=Lib.hid (fun (W:World)=>QP (gY ls).length W h0 hl);have HA:=Lib.hid h;go_enter func74,ntmps74;go_wp2;go_loop [3,11] (fun s i=>∃ k:Nat,k≤ls.length∧i=.int .i64 k∧s=.int .i64 ((gY (ls.take k)).length:Nat)) (fun _ i=>ls.length - (intOf i).toNat)
 case atStart=>exact ⟨0,Nat.zero_le _,rfl,rfl⟩
 case round =>
  obtain ⟨k,hk,rfl,rfl⟩:=hrel;by_cases hlt:k<ls.length
  ·have hc:=(h k hlt).1
   have hs:=congrArg List.length (Bc ls k hlt);rw [List.length_append] at hs;have hle:=Bd ls k;have hle2:=Bd ls (k+1);rw [hs] at hle2;have HS:=Lib.hid hs;clear hs h;generalize ls[k]=x at *;generalize (gY (ls.take k)).length=n at *;have hneg:decide (((n:Int)+(x.2.2.length:Int))<0)=false:=decide_eq_false (by omega);go_wp2;go_round
   case rel=>exact ⟨k+1,by omega,by go_num,by rw [HS.out];go_num⟩
   case measure => exact z65
  ·have hk2:Hid ((gY (ls.take k)).length=(gY ls).length):=by unfold Hid;rw [List.take_of_length_le (by omega)]
   rw [hk2.out];clear hk2;obtain ⟨n,hn⟩:∃ n,n=(gY ls).length:=⟨_,rfl⟩;rw [← hn] at HG hl h0 ⊢;have HN:=Lib.hid hn;clear hn h;go_wp2_with (go_at_call 123;(with_reducible refine (HG.out _).mono ?_);rintro v w1 ⟨v,rfl,hown,hbt⟩)
   go_loopw [6,27] (fun out i wr=>Below w.heap.size w wr∧∃ k:Nat,k≤ls.length∧i=.int .i64 k∧wr.ownsRow w.heap.size 5 1 out (gY (ls.take k)).length (aX (gY (ls.take k)))) (fun _ i _=>ls.length - (intOf i).toNat)
   case atStart=>exact ⟨hbt,0,Nat.zero_le _,rfl,hown⟩
   case round =>
        clear hbt hown;obtain ⟨hbt,k,hk,rfl,hown⟩:=hrel;have hz:=hbt.size;have hA:=HA.out.kept (w':=wr) hbt;by_cases hlt:k<ls.length
        ·have hx:=hne _ (List.getElem_mem hlt)
         have hc:=(hA k hlt).1;have hin:=(hA k hlt).2;have hs:=Bc ls k hlt;have hle2:=Bd ls (k+1);rw [hs,List.length_append,← HN.out] at hle2;have HS:=Lib.hid hs;clear hs hA;generalize ls[k]=x at *;obtain ⟨a,cap2,m⟩:=x;simp only at hx hc hin HS hle2;rcases hin with h9 | ⟨A',off,rfl,hb'⟩
         ·exact absurd h9 hx
         have hnews:=hb'.news;clear hx hb' hne HA;generalize gY (ls.take k)=d at *;go_wp2_with (at_builtin;refine wpList_append_own _ rfl _ _ 22 rfl w.heap.size 5 i0 (.int .u8 0) 1 1 underlying22 hi hz0 hz1 hz2 rfl (by decide) _ _ _ rfl hown ⟨A',off,none⟩ _ _ (aX m) rfl (by rw [dO];simp) hnews (qO _) (by unfold maxLen;omega) (by omega) (by omega) ?_;intro v2 w2 hown2 hgrow _;have hown3:w2.ownsRow w.heap.size 5 1 v2 (d++m).length (aX (d++m)):=(by rw [eQ,List.length_append];exact hown2);have Ry:=hbt.grown hgrow (by omega) (fun k hk=>(hown.lt k hk).1);have hz3:=Nat.le_trans hz hgrow.size;clear hown2 hgrow;replace hown:=hown3;replace hbt:=Ry;replace hz:=hz3;clear hown3 Ry hz3)
         go_roundw
         case rel=>exact ⟨hbt,k+1,by omega,by go_num,by rw [HS.out];exact hown⟩
         case measure => exact z65
        ·have hk2:Hid (gY (ls.take k)=gY ls):=by unfold Hid;rw [List.take_of_length_le (by omega)]
         rw [hk2.out] at hown;clear hk2 hA hne HA;go_wp2;go_ret;exact ⟨_,rfl,hown,hbt⟩
def MR (x:Option Addr×Nat×Bytes):Value:=.slice x.1 x.2.2.length x.2.1
theorem Gm (W:World) (t:TypeId) (x y z:Option Addr×Nat×Bytes) (hx:BytesIn W x.1 x.2.2) (hy:BytesIn W y.1 y.2.2) (hz:BytesIn W z.1 z.2.2) :
 SlicesAt (W.alloc (.cells #[MR x,MR y,MR z] t)) W.heap.size [x,y,z]:=by
 have hb:Below W.heap.size W (W.alloc (.cells #[MR x,MR y,MR z] t)):=(Below.refl _ _).alloc (Nat.le_refl _) _;intro j hj;match j,hj with
 | 0,_=>exact ⟨by rw [World.cell?_alloc_new];rfl,hx.kept hb⟩
 | 1,_=>exact ⟨by rw [World.cell?_alloc_new];rfl,hy.kept hb⟩
 | 2,_=>exact ⟨by rw [World.cell?_alloc_new];rfl,hz.kept hb⟩
/-- what hands back bytes in memory of its own, and no error -/
def MF (l:Bytes) (w:World) (e:Ending) (w':World):Prop :=
 ∃ v,e=.returned (.tuple #[v,.int .i64 0])∧w'.ownsRow w.heap.size 5 1 v l.length (aX l)∧Below w.heap.size w w'
theorem ny (l:Bytes):gX l<4294967296:=by unfold gX;omega
theorem F6 (a a2:Option Addr) (cap cap2:Nat) (l body:Bytes) (w:World) (hl:l.length≤268435456) (hb:body.length≤1048576) (hne:body≠[]) (h1:BytesIn w a l) (h2:BytesIn w a2 body) :
 Calls prog 33 #[.slice a l.length cap,.slice a2 body.length cap2] w (MF (l++dw body) w):=by
 have hS:=Lib.hid (fun (W:World) (h:BytesIn W a2 body)=>CJ a2 cap2 body W (by omega) h);have hq:=fun (W:World)=>Lr (gX body) W (ny body);have hp:=fun (W:World) (h:BytesIn W a l)=>zx a cap l body.length W (by omega) (by omega) h;have hl2:=bF body.length (by omega);have hs2:=List.length_pos_iff.2 (Jw body.length);have hwr:IntKind.u64.wrap ((gX body:Nat):Int)=((gX body:Nat):Int):=IntWalk.u64_in _ (by have:=ny body;omega);obtain ⟨d,hd⟩:∃ d,d=l++aS body.length:=⟨_,rfl⟩;have hdl:d.length=l.length+(aS body.length).length:=by rw [hd,List.length_append]
 obtain ⟨q,hq4⟩:∃ q,q=le4 (gX body):=⟨_,rfl⟩;have hql:q.length=4:=by rw [hq4];rfl
 rw [← hd] at hp;unfold QG at hq;rw [← hq4,← hql] at hq;have hbl:=List.length_pos_iff.2 hne;have HR:Hid (l++dw body=gY [((none:Option Addr),0,d),(none,0,body),(none,0,q)]):=by
  unfold Hid dw;rw [hd,hq4];simp [gY]
 have hJ:∀ (x y z:Option Addr) (i j k:Nat),gY [(x,i,d),(y,j,body),(z,k,q)]=gY [((none:Option Addr),0,d),(none,0,body),(none,0,q)]:=fun _ _ _ _ _ _=>rfl;have hJl:(gY [((none:Option Addr),0,d),(none,0,body),(none,0,q)]).length=d.length+(body.length+q.length):=by simp [gY]
 have HC:Hid (∀ (x y z:Option Addr) (i j k:Nat) (W:World),BytesIn W x d→BytesIn W y body→BytesIn W z q→∀ (t:TypeId),
  Calls prog 74 #[.slice (some ⟨W.heap.size,0,none⟩) 3 3] (W.alloc (.cells #[.slice x d.length i,.slice y body.length j,.slice z q.length k] t))
        (lW (gY [((none:Option Addr),0,d),(none,0,body),(none,0,q)]) (W.alloc (.cells #[.slice x d.length i,.slice y body.length j,.slice z q.length k] t)))):=by
  intro x y z i j k W hx hy hz t;refine Lp W.heap.size 3 [(x,i,d),(y,j,body),(z,k,q)] _ ?_ ?_ ?_ (by simp) (Gm W t (x,i,d) (y,j,body) (z,k,q) hx hy hz)
  ·intro u hu
   simp only [List.mem_cons,List.not_mem_nil,or_false] at hu;rcases hu with rfl | rfl | rfl
   ·exact List.length_pos_iff.1 (by rw [hdl];omega)
   ·exact hne
   ·exact List.length_pos_iff.1 (by rw [hql];omega)
  ·rw [hJ,hJl];omega
  ·rw [hJ,hJl];omega
 have HP:=Lib.hid hp;have HQ:=Lib.hid hq;have HL:=Lib.hid hql;clear hp hq hd hq4 hdl hJ hJl hl2 hs2 hql;go_enter func33,ntmps33;go_wp2_with (first
  | (go_at_call 73;(with_reducible refine (hS.out _ h2).mono ?_);rintro x w1 ⟨rfl,hb1⟩;replace h1:=h1.kept hb1;replace h2:=h2.kept hb1)
  | (go_at_call 72;(with_reducible refine (HQ.out _).mono ?_);rintro x w2 ⟨v,rfl,hown,hb2⟩;replace h1:=h1.kept hb2;replace h2:=h2.kept hb2;replace hb2:=below2 hb1 hb2;obtain ⟨a3,cap3,rfl,oG⟩:=dJ hown;clear hown)
  | (go_at_call 71;(with_reducible refine (HP.out _ h1).mono ?_);rintro x w3 ⟨v,rfl,hown,hb3⟩;obtain ⟨a1,cap1,rfl,hin1⟩:=dJ hown;clear hown h1;replace h2:=h2.kept hb3;replace oG:=oG.kept hb3;replace hb3:=below2 hb2 hb3)
  | (go_at_call 74;refine (HC.out _ _ _ _ _ _ _ hin1 h2 oG _).mono ?_;rintro x w4 ⟨v,rfl,hown,hb4⟩))
 go_ret2;rw [HR.out];refine ⟨_,rfl,jh hown (by have:=hb3.size;simp;omega),below2 (below2 hb3 ((Below.refl _ _).alloc (Nat.le_refl _) _)) hb4⟩
end Go.Proofs.YtepkclldbkhanaaGreat
/- Bytes in frames, read: a number of four bytes, a frame, one frame. Conditions: at most 2^30 bytes. -/
namespace Go.Proofs.YtepkclldbkhanaaGreat
open Go.RowKit
/-- the number of bytes, the lowest first -/
def fF:Bytes→Nat
 | []=>0
 | c :: r=>c.toNat+256 * fF r
theorem qY:∀ l:Bytes,fF l<256 ^ l.length
 | []=>by simp [fF]
 | c :: r=>by
   have:=qY r;have:=c.toNat_lt;simp only [fF,List.length_cons,Nat.pow_succ];omega
theorem AC:∀ (l:Bytes) (c:UInt8),fF (l++[c])=fF l+c.toNat * 256 ^ l.length
 | [],c=>by simp [fF]
 | a :: r,c=>by
   have:=AC r c;simp only [List.cons_append,fF,this,List.length_cons,Nat.pow_succ];rw [Nat.mul_add,Nat.add_assoc];congr 2
   rw [Nat.mul_left_comm,Nat.mul_comm 256]
theorem PK (m k c:Nat) (hk:k≤7) (hm:m<256 ^ k) (hc:c<256):bits BinOp.or IntKind.u64 (m:Int) (IntKind.u64.wrap ((c:Int) * 2 ^ (8 * k)))=((m+c * 256 ^ k:Nat):Int):=by
 have e:(2:Int) ^ (8 * k)=((256 ^ k:Nat):Int):=by
  have h:(2:Nat) ^ (8 * k)=256 ^ k:=by rw [Nat.pow_mul]
  rw [← h];simp
 have hp:256 ^ k≤256 ^ 7:=Nat.pow_le_pow_right (by omega) hk;have h4:256 ^ 7=72057594037927936:=by decide
 have hx:c * 256 ^ k+256 ^ k≤18446744073709551616:=by
  have h3:c * 256 ^ k≤255 * 256 ^ k:=Nat.mul_le_mul_right _ (by omega);omega
 have e2:((c:Int) * 2 ^ (8 * k))=((c * 256 ^ k:Nat):Int):=by rw [e];simp
 have hpos:0<256 ^ k:=Nat.pow_pos (by omega);rw [e2,IntWalk.u64_in _ (by omega),u64_or_nat m (c * 256 ^ k) (by omega) (by omega)];have h7:(256:Nat) ^ k=2 ^ (8 * k):=by rw [Nat.pow_mul]
 have h8:m ||| c * 256 ^ k=c * 256 ^ k+m:=by
  rw [h7] at hm ⊢;rw [Nat.or_comm,← Nat.shiftLeft_eq,Nat.shiftLeft_add_eq_or_of_lt hm]
 rw [h8,Nat.add_comm]
theorem FY (a:Option Addr) (cap:Nat) (l:Bytes) (w:World) (h4:l.length=4) (h:BytesIn w a l) :
 Calls prog 91 #[.slice a l.length cap] w fun e w'=>e=.returned (.tuple #[.int .u64 (fF l:Nat),.int .i64 0])∧w=w':=by
 rcases h with h0 | ⟨A,off,rfl,hb⟩
 ·rw [h0] at h4;simp at h4
 have H4:=Lib.hid h4;have hls:l.length≤4∧4≤l.length:=by omega
 have hl0:((l.length:Int) == 0)=false:=by rw [beq_eq_false_iff_ne];omega
 have hl8:decide ((l.length:Int)>8)=false:=decide_eq_false (by omega);clear h4;go_enter func91,ntmps91;go_wp2;go_loop [4,17] (fun n i=>∃ k:Nat,k≤l.length∧i=.int .i64 k∧n=.int .u64 (fF (l.take k):Nat)) (fun _ i=>l.length - (intOf i).toNat)
 case atStart=>exact ⟨0,Nat.zero_le _,rfl,rfl⟩
 case round =>
  obtain ⟨k,hk,rfl,rfl⟩:=hrel;by_cases hlt:k<l.length
  ·have hc:=hb.cell hlt
   have hs:=AC (l.take k) l[k];rw [← List.take_succ_eq_append_getElem hlt,List.length_take,Nat.min_eq_left (by omega)] at hs;have hm:=qY (l.take k);rw [List.length_take,Nat.min_eq_left (by omega)] at hm;have hcl:=l[k].toNat_lt;have ho:=PK (fF (l.take k)) k l[k].toNat (by omega) hm hcl;rw [← hs] at ho;generalize fF (l.take k)=m at *;obtain ⟨m2,hm2⟩:∃ m2,m2=fF (l.take (k+1)):=⟨_,rfl⟩;rw [← hm2] at ho;have HM:=Lib.hid hm2;generalize l[k]=c at *;clear hs hm hm2;go_wp2;go_round
   case rel=>exact ⟨k+1,by omega,by go_num,by rw [← HM.out]⟩
   case measure => exact z65
  ·have hk2:Hid (l.take k=l):=List.take_of_length_le (by omega)
   rw [hk2.out];clear hk2;go_wp2;go_ret2;exact ⟨rfl,rfl⟩
/-- the frame that bytes begin with: its body, how many bytes it has, the error -/
def fG (b:Bytes):Bytes×Nat×Int :=
 if (bP b).2.2=0 then
    (if 1048576<(bP b).1 then ([],0,3)
    else if b.length<(bP b).2.1+(bP b).1+4 then ([],0,2)
    else if fF ((b.drop ((bP b).2.1+(bP b).1)).take 4)=gX ((b.drop (bP b).2.1).take (bP b).1) then ((b.drop (bP b).2.1).take (bP b).1,(bP b).2.1+(bP b).1+4,0)
    else ([],0,5))
 else ([],0,(bP b).2.2)
/-- behind frame.Get -/
def I5 (r:Bytes×Nat×Int) (w:World) (e:Ending) (w':World):Prop :=
 ∃ v,e=.returned (.tuple #[v,.int .i64 r.2.1,.int .i64 r.2.2])∧w'.ownsRow w.heap.size 5 1 v r.1.length (aX r.1)∧Below w.heap.size w w'
theorem BytesIn.part {w:World} {a:Option Addr} {l:Bytes} (h:BytesIn w a l) (i n:Nat):BytesIn w (a.map (fun x=>x.add i)) ((l.drop i).take n):=by
 rcases h with h | ⟨A,off,rfl,hb⟩
 ·exact Or.inl (by rw [h];simp)
 ·refine Or.inr ⟨A,off+i,by simp [Addr.add_mid],fun j hj=>?_⟩
  have hj2:j<l.length - i∧j<n:=by simp at hj;omega
  have:=hb (i+j) (by omega);rw [← Nat.add_assoc] at this;rw [this,List.getElem_take,List.getElem_drop]
theorem sG (w w':World) (k:Int) (hb:Below w.heap.size w w'):I5 ([],0,k) w (.returned (.tuple #[.slice none 0 0,.int .i64 0,.int .i64 k])) w':=⟨_,rfl,World.ownsRow_nil _ _ _ _,hb⟩
theorem z50 {p : Prop} (h : p := by
 clear HV
 rw [HE.out]
 go_enter func48, ntmps48
 go_wp2_with (go_at_call 50; (with_reducible refine HG.out.mono ?_); rintro x w1 ⟨rfl, rfl⟩)
 go_ret3
 exact sG _ _ _ (Below.refl _ _)) : p := h
theorem z30 {p : Prop} (h : p := by
 go_enter func48, ntmps48
 go_wp2_with (first
      | (go_at_call 50; (with_reducible refine HG.out.mono ?_); rintro x w1 ⟨rfl, rfl⟩)
      | (go_at_call 91; (with_reducible refine (HN.out _ _ _ (by first | exact HI.out.2 _ h | simpa using HI.out.2 _ h)).mono ?_); rintro x w2 ⟨rfl, rfl⟩)
      | (go_at_call 73; (with_reducible refine (HC.out _ _ _ (by first | exact HI.out.1 _ h | exact HBN.out _ _)).mono ?_); rintro x w3 ⟨rfl, hb1⟩; replace h := h.kept hb1)
      | (go_at_call 75; (with_reducible refine (HK.out _ _ _ (by first | exact HI.out.1 _ h | exact HBN.out _ _)).mono ?_); rintro x w4 ⟨v, rfl, hown, hb2⟩))
 go_ret3
 exact sG _ _ _ hb1) : p := h
theorem y59 {p q : Prop} (k : q) (h : PLift q → p := by
 intro kk
 replace HV := Lib.hid (HV.out.trans (if_neg hsh))
 have hnb : n ≤ 1048576 := by omega
 have TY : k + n + 4 ≤ l.length := by omega
 have hBl : ((l.drop k).take n).length = n := by simp; omega
 have hQl : ((l.drop (k + n)).take 4).length = 4 := by simp; omega
 revert HV hnb TY hBl hQl
 exact kk.down) : p := h ⟨k⟩
theorem y37 {p q : Prop} (k : q) (h : PLift q → p := by
 intro kk
 have HE := Lib.hid (HV.out.trans (if_neg hqc))
 have hq1 : ((q : Int) == (c : Int)) = false := by rw [beq_eq_false_iff_ne]; omega
 have hq2 : ((q : Int) != (c : Int)) = true := by rw [bne_iff_ne]; omega
 have hq3 : (q == c) = false := by rw [beq_eq_false_iff_ne]; omega
 have hq4 : (q != c) = true := by rw [bne_iff_ne]; omega
 rw [HE.out]
 revert HE hq1 hq2 hq3 hq4
 exact kk.down) : p := h ⟨k⟩
theorem y36 {p q : Prop} (k : q) (h : PLift q → p := by
 intro kk
 have HE := Lib.hid (HV.out.trans (if_pos hqc))
 have hq1 : ((q : Int) == (c : Int)) = true := by rw [beq_iff_eq]; omega
 have hq2 : ((q : Int) != (c : Int)) = false := by rw [bne_eq_false_iff_eq]; omega
 have hq3 : (q == c) = true := by rw [beq_iff_eq]; omega
 have hq4 : (q != c) = false := by rw [bne_eq_false_iff_eq]; omega
 rw [HE.out]
 revert HE hq1 hq2 hq3 hq4
 exact kk.down) : p := h ⟨k⟩
theorem F8 (a:Option Addr) (cap:Nat) (l:Bytes) (w:World) (hl:l.length≤1073741824) (hcap:l.length≤cap) (h:BytesIn w a l) :
 Calls prog 48 #[.slice a l.length cap] w (I5 (fG l) w):=by
 have hd:=F5 a cap l w hl h;have hfit:=kV l;have HV:Hid (fG l=if (bP l).2.2=0 then
  (if 1048576<(bP l).1 then ([],0,3)
  else if l.length<(bP l).2.1+(bP l).1+4 then ([],0,2)
  else if fF ((l.drop ((bP l).2.1+(bP l).1)).take 4)=gX ((l.drop (bP l).2.1).take (bP l).1) then ((l.drop (bP l).2.1).take (bP l).1,(bP l).2.1+(bP l).1+4,0)
  else ([],0,5))
 else ([],0,(bP l).2.2)):=rfl
 obtain ⟨n,k,e,hg⟩:∃ n k e,bP l=(n,k,e):=⟨_,_,_,rfl⟩;rw [hg] at hd hfit HV;simp only at hd hfit HV;clear hg;have HG:=Lib.hid hd;clear hd;rcases hfit with ⟨rfl,hn,hk0,hkl⟩ | ⟨he2,rfl,rfl⟩
 ·replace HV:=Lib.hid (HV.out.trans (if_pos rfl))
  by_cases hbig:1048576<n
  ·have HE:=Lib.hid (HV.out.trans (if_pos hbig))
   exact z50
  ·replace HV:=Lib.hid (HV.out.trans (if_neg hbig))
   by_cases hsh:l.length<k+n+4
   ·have HE:=Lib.hid (HV.out.trans (if_pos hsh))
    have hlt:decide ((l.length:Int) - (k:Int) - 4<(n:Int))=true:=decide_eq_true (by omega)
    exact z50
   ·have hlt:decide ((l.length:Int) - (k:Int) - 4<(n:Int))=false:=decide_eq_false (by omega)
    refine y59 ?_
    clear HV
    intro HV hnb TY hBl hQl
    have hBi:=fun (W:World) (h:BytesIn W a l)=>BytesIn.part h k n;have hQi:=fun (W:World) (h:BytesIn W a l)=>BytesIn.part h (k+n) 4;have hql:=qY ((l.drop (k+n)).take 4);rw [hQl,show 256 ^ 4=4294967296 by decide] at hql;have hcl:=ny ((l.drop k).take n);have hN:=fun (x:Option Addr) (c:Nat) (W:World) (h:BytesIn W x ((l.drop (k+n)).take 4))=>FY x c ((l.drop (k+n)).take 4) W hQl h;have hC:=fun (x:Option Addr) (c:Nat) (W:World) (h:BytesIn W x ((l.drop k).take n))=>CJ x c ((l.drop k).take n) W (by omega) h;have hK:=fun (x:Option Addr) (c:Nat) (W:World) (h:BytesIn W x ((l.drop k).take n))=>lg x c ((l.drop k).take n) W (by omega) h;rw [hQl] at hN;rw [hBl] at hC hK;generalize (l.drop k).take n=B at *;generalize (l.drop (k+n)).take 4=Q at *;generalize fF Q=q at *;generalize gX B=c at *;have hwr:IntKind.u32.wrap (q:Int)=(q:Int):=IntWalk.u32_in _ (by omega);have HN:=Lib.hid hN;have HC:=Lib.hid hC;have HK:=Lib.hid hK;have HI:=Lib.hid (And.intro hBi hQi);have HB:=Lib.hid hBl;clear hN hC hK hBl hQl hBi hQi hsh hbig;by_cases hqc:q=c
    ·refine y36 ?_
     clear HV hqc
     intro HE hq1 hq2 hq3 hq4
     rcases Nat.eq_zero_or_pos n with rfl | hn0
     ·have HB0:Hid (B=[]):=List.length_eq_zero_iff.1 HB.out
      have HBN:Hid (∀ (x:Option Addr) (W:World),BytesIn W x B):=fun _ _=>Or.inl HB0.out;go_enter func48,ntmps48;go_wp2_with (first
           | (go_at_call 50;(with_reducible refine HG.out.mono ?_);rintro x w1 ⟨rfl,rfl⟩)
           | (go_at_call 91;(with_reducible refine (HN.out _ _ _ (by first | exact HI.out.2 _ h | simpa using HI.out.2 _ h)).mono ?_);rintro x w2 ⟨rfl,rfl⟩)
           | (go_at_call 73;(with_reducible refine (HC.out _ _ _ (by first | exact HI.out.1 _ h | exact HBN.out _ _)).mono ?_);rintro x w3 ⟨rfl,hb1⟩;replace h:=h.kept hb1)
           | (go_at_call 75;(with_reducible refine (HK.out _ _ _ (by first | exact HI.out.1 _ h | exact HBN.out _ _)).mono ?_);rintro x w4 ⟨v,rfl,hown,hb2⟩))
      go_ret3
      rw [HB0.out] at hown ⊢;exact ⟨_,rfl,jh hown hb1.size,below2 hb1 hb2⟩
     ·have hkn:¬ (k+n=k):=by omega
      have hnn:¬ (n=0):=by omega
      go_enter func48,ntmps48;go_wp2_with (first
           | (go_at_call 50;(with_reducible refine HG.out.mono ?_);rintro x w1 ⟨rfl,rfl⟩)
           | (go_at_call 91;(with_reducible refine (HN.out _ _ _ (by first | exact HI.out.2 _ h | simpa using HI.out.2 _ h)).mono ?_);rintro x w2 ⟨rfl,rfl⟩)
           | (go_at_call 73;(with_reducible refine (HC.out _ _ _ (by first | exact HI.out.1 _ h | exact HBN.out _ _)).mono ?_);rintro x w3 ⟨rfl,hb1⟩;replace h:=h.kept hb1)
           | (go_at_call 75;(with_reducible refine (HK.out _ _ _ (by first | exact HI.out.1 _ h | exact HBN.out _ _)).mono ?_);rintro x w4 ⟨v,rfl,hown,hb2⟩))
      go_ret3
      exact ⟨_,rfl,jh hown hb1.size,below2 hb1 hb2⟩
    ·refine y37 ?_
     clear HV hqc
     intro HE hq1 hq2 hq3 hq4
     rcases Nat.eq_zero_or_pos n with rfl | hn0
     ·have HB0:Hid (B=[]):=List.length_eq_zero_iff.1 HB.out
      have HBN:Hid (∀ (x:Option Addr) (W:World),BytesIn W x B):=fun _ _=>Or.inl HB0.out
      exact z30
     ·have hkn:¬ (k+n=k):=by omega
      have hnn:¬ (n=0):=by omega
      exact z30
 ·refine y22 ?_
  intro hne hne2
  have HE:Hid (fG l=([],0,e)):=HV.out.trans (if_neg (by omega))
  exact z50
end Go.Proofs.YtepkclldbkhanaaGreat
/- One frame; how many bytes a frame has; the frames at the beginning of bytes. Conditions: at most 2^30 bytes. -/
namespace Go.Proofs.YtepkclldbkhanaaGreat
open Go.RowKit
/-- the body of the one frame that bytes are -/
def nV (b:Bytes):Bytes×Int:=if (fG b).2.2=0 then (if (fG b).2.1<b.length then ([],1) else ((fG b).1,0)) else ([],(fG b).2.2)
def Lc (r:Bytes×Int) (w:World) (e:Ending) (w':World):Prop :=
 ∃ v,e=.returned (.tuple #[v,.int .i64 r.2])∧w'.ownsRow w.heap.size 5 1 v r.1.length (aX r.1)∧Below w.heap.size w w'
theorem JC (w w':World) (k:Int) (hb:Below w.heap.size w w'):Lc ([],k) w (.returned (.tuple #[.slice none 0 0,.int .i64 k])) w':=⟨_,rfl,World.ownsRow_nil _ _ _ _,hb⟩
theorem sU (l:Bytes):((fG l).2.2=0∧5≤(fG l).2.1∧(fG l).2.1≤l.length∧(fG l).1.length≤1048576∧(fG l).1.length+5≤(fG l).2.1)∨((fG l).2.2≠0∧(fG l).2.2≤5∧0≤(fG l).2.2∧(fG l).1=[]∧(fG l).2.1=0):=by
 have h:=kV l;unfold fG;split
 ·split
  ·right;simp
  ·split
   ·right;simp
   ·split
    ·left;simp;omega
    ·right;simp
 ·right;refine ⟨by assumption,?_,?_,rfl,rfl⟩ <;> simp only <;> omega
theorem z109 {p : Prop} (h : p := by
 rw [HE.out]
 go_enter func16, ntmps16
 go_wp2_with (go_at_call 48; (with_reducible refine HG.out.mono ?_); rintro x w1 ⟨v, rfl, hown, hb⟩)
 go_ret2
 exact JC _ _ _ hb) : p := h
theorem F7 (a:Option Addr) (cap:Nat) (l:Bytes) (w:World) (hl:l.length≤1073741824) (hcap:l.length≤cap) (h:BytesIn w a l) :
 Calls prog 16 #[.slice a l.length cap] w (Lc (nV l) w):=by
 have hg:=F8 a cap l w hl hcap h;have hf:=sU l;have HV:Hid (nV l=if (fG l).2.2=0 then (if (fG l).2.1<l.length then ([],1) else ((fG l).1,0)) else ([],(fG l).2.2)):=rfl;obtain ⟨b,n,e,hx⟩:∃ b n e,fG l=(b,n,e):=⟨_,_,_,rfl⟩;rw [hx] at hg hf HV;simp only at hf HV;unfold I5 at hg;simp only at hg;have HG:=Lib.hid hg;clear hg hx;rcases hf with ⟨rfl,h5,hn,-,-⟩ | ⟨he,-,-,rfl,rfl⟩
 ·replace HV:=Lib.hid (HV.out.trans (if_pos rfl))
  by_cases hlt:n<l.length
  ·have HE:=Lib.hid (HV.out.trans (if_pos hlt))
   clear HV
   exact z109
  ·have HE:=Lib.hid (HV.out.trans (if_neg hlt))
   clear HV;rw [HE.out];have hd:decide ((n:Int)<(l.length:Int))=false:=decide_eq_false (by omega);go_enter func16,ntmps16;go_wp2_with (go_at_call 48;(with_reducible refine HG.out.mono ?_);rintro x w1 ⟨v,rfl,hown,hb⟩)
   go_ret2;exact ⟨_,rfl,hown,hb⟩
 ·refine y22 ?_
  intro hne hne2
  have HE:Hid (nV l=([],e)):=HV.out.trans (if_neg he);clear HV he
  exact z109
/-- how many bytes a frame has, of a body of n bytes -/
def LC (n:Nat):Nat:=(aS n).length+n+4
end Go.Proofs.YtepkclldbkhanaaGreat
/- The frames at the beginning of bytes. Conditions: at most 2^30 bytes. -/
namespace Go.Proofs.YtepkclldbkhanaaGreat
open Go.RowKit
theorem BytesIn.tail {w:World} {a:Option Addr} {l:Bytes} (h:BytesIn w a l) (i:Nat):BytesIn w (a.map (fun x=>x.add i)) (l.drop i):=by
 have:=h.part i l.length;rwa [List.take_of_length_le (by simp)] at this
end Go.Proofs.YtepkclldbkhanaaGreat
