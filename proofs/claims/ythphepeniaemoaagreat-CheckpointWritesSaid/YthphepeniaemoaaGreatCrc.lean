/- Sums of 32 bits: a byte further, by steps of one bit and of four; what a change does to a sum. Conditions: none. -/
import Derived.Laws.BitsAllLaws
import Derived.Test.YthphepeniaemoaaGreatCel
import Derived.Test.YthphepeniaemoaaGreatClone
import Derived.IntWalk
import Derived.Lib.AppendZerosOnto
import Derived.Test.YthphepeniaemoaaGreatDec
set_option linter.unusedSimpArgs false
set_option linter.unusedVariables false
set_option linter.unnecessarySimpa false
set_option maxHeartbeats 16000000
set_option maxRecDepth 100000
open Go.Proofs.Tryz
namespace Go.Proofs.YthphepeniaemoaaGreat
def zX:Nat:=3988292384
def fZ (s:Nat):Nat:=if s % 2=1 then s / 2 ^^^ zX else s / 2
def step4 (s:Nat):Nat:=fZ (fZ (fZ (fZ s)))
def mY (s c:Nat):Nat:=step4 (step4 (s ^^^ c))
def pV:Nat->List UInt8->Nat
 | s,[]=>s
 | s,c :: r=>pV (mY s c.toNat) r
def fK (l:List UInt8):Nat:=4294967295 - pV 4294967295 l
theorem Pq (a b:Nat):(a ^^^ b) / 2=a / 2 ^^^ b / 2:=by
 have:=Nat.shiftRight_xor_distrib (a:=a) (b:=b) (i:=1);simpa [Nat.shiftRight_eq_div_pow] using this
theorem RN (a b:Nat):(a ^^^ b) % 2=1↔¬ (a % 2=1↔b % 2=1):=by
 have h:=Nat.testBit_xor a b 0;simp only [Nat.testBit_zero] at h;by_cases ha:a % 2=1 <;> by_cases hb:b % 2=1 <;> simp [ha,hb] at h ⊢ <;> omega
theorem I4 (a b:Nat):fZ (a ^^^ b)=fZ a ^^^ fZ b:=by
 unfold fZ;have h:=RN a b;have h2:=Pq a b;by_cases ha:a % 2=1 <;> by_cases hb:b % 2=1
 ·rw [if_neg (by rw [h];simp [ha,hb]),if_pos ha,if_pos hb,h2,Nat.xor_assoc,Nat.xor_comm (b / 2),<- Nat.xor_assoc zX,Nat.xor_self,Nat.zero_xor]
 ·rw [if_pos (by rw [h];simp [ha,hb]),if_pos ha,if_neg hb,h2,Nat.xor_assoc,Nat.xor_comm (b / 2),Nat.xor_assoc]
 ·rw [if_pos (by rw [h];simp [ha,hb]),if_neg ha,if_pos hb,h2,Nat.xor_assoc]
 ·rw [if_neg (by rw [h];simp [ha,hb]),if_neg ha,if_neg hb,h2]
theorem oL {s:Nat} (h:s<4294967296):fZ s<4294967296:=by
 unfold fZ zX;split
 ·exact Nat.xor_lt_two_pow (n:=32) (by omega) (by omega)
 ·omega
theorem Nq (a b:Nat):step4 (a ^^^ b)=step4 a ^^^ step4 b:=by unfold step4;simp only [I4]
theorem wF {s:Nat} (h:s<4294967296):step4 s<4294967296:=oL (oL (oL (oL h)))
theorem mX (h:Nat):fZ (2 * h)=h:=by unfold fZ;rw [if_neg (by omega)];omega
theorem JM (h:Nat):step4 (16 * h)=h:=by
 unfold step4;rw [show 16 * h=2 * (2 * (2 * (2 * h))) by omega,mX,mX,mX,mX]
/-- what four steps make of the lowest four bits -/
def rq:List Nat:=[0x00000000,0x1db71064,0x3b6e20c8,0x26d930ac,0x76dc4190,0x6b6b51f4,0x4db26158,0x5005713c,0xedb88320,0xf00f9344,0xd6d6a3e8,0xcb61b38c,0x9b64c2b0,0x86d3d2d4,0xa00ae278,0xbdbdf21c]
theorem Nr:∀ k:Fin 16,step4 k.val=rq.getD k.val 0:=by decide +kernel
theorem Sm (x:Nat):x=16 * (x / 16) ^^^ (x % 16):=by
 have h:16 * (x / 16) ||| x % 16=16 * (x / 16) ^^^ (x % 16):=by
  apply Nat.eq_of_testBit_eq;intro i;simp only [Nat.testBit_or,Nat.testBit_xor];rw [show 16 * (x / 16)=2 ^ 4 * (x / 16) from rfl,show x % 16=x % 2 ^ 4 from rfl,Nat.testBit_two_pow_mul,Nat.testBit_mod_two_pow];by_cases hi:i<4
  ·simp [show ¬ i≥4 by omega]
  ·simp [hi]
 have h2:16 * (x / 16) ||| x % 16=16 * (x / 16)+x % 16:=by
  have:=Nat.two_pow_add_eq_or_of_lt (i:=4) (b:=x % 16) (by omega) (x / 16);simpa using this.symm
 rw [<- h,h2];omega
theorem Ea (x:Nat):step4 x=x / 16 ^^^ rq.getD (x % 16) 0:=by
 have h:=Sm x;have h2:=Nq (16 * (x / 16)) (x % 16);rw [<- h,JM,Nr ⟨x % 16,by omega⟩] at h2;exact h2
theorem Ld {s c:Nat} (h:s<4294967296) (hc:c<256):mY s c<4294967296 :=
 wF (wF (Nat.xor_lt_two_pow (n:=32) h (by omega)))
end Go.Proofs.YthphepeniaemoaaGreat
/- The sum of bytes, by a table of sixteen numbers. Conditions: at most 2^30 bytes. -/
namespace Go.Proofs.YthphepeniaemoaaGreat
open Go.RowKit
def uk:Array Value:=#[.int .u32 0,.int .u32 498536548,.int .u32 997073096,.int .u32 651767980,.int .u32 1994146192,.int .u32 1802195444,.int .u32 1303535960,.int .u32 1342533948,.int .u32 3988292384,.int .u32 4027552580,.int .u32 3604390888,.int .u32 3412177804,.int .u32 2607071920,.int .u32 2262029012,.int .u32 2685067896,.int .u32 3183342108]
theorem JK (k:Nat) (h:k<16):uk[k]?=some (.int .u32 ((rq.getD k 0:Nat):Int)):=by
 match k,h with
 | 0,_=>rfl
 | 1,_=>rfl
 | 2,_=>rfl
 | 3,_=>rfl
 | 4,_=>rfl
 | 5,_=>rfl
 | 6,_=>rfl
 | 7,_=>rfl
 | 8,_=>rfl
 | 9,_=>rfl
 | 10,_=>rfl
 | 11,_=>rfl
 | 12,_=>rfl
 | 13,_=>rfl
 | 14,_=>rfl
 | 15,_=>rfl
 | k+16,h=>exact absurd h (by omega)
theorem EU:∀ k:Fin 16,rq.getD k.val 0<4294967296:=by decide
theorem table_any (w:World):Calls prog 204 #[] w fun e w'=>e=.returned (.agg uk)/\Below w.heap.size w w':=by
 go_enter func204,ntmps204;go_wp2_with (first
  | (refine Great.wpList_buildTo rfl 278 _ rfl _ rfl uk (by kernel_rfl) ?_)
  | (refine cZ 278 _ _ _ uk rfl rfl (by kernel_rfl) rfl (by kernel_rfl) ?_))
 refine ed _ _ 278 w.heap.size uk _ rfl rfl (heap_alloc_last w _) underlying278 rfl (by kernel_rfl) rfl ⟨rfl,(bh _ _).alloc (ar _) _⟩
theorem Fq (w:World) (b:Nat) (cs cs':Array Value) (t:TypeId) (f:Nat×Nat) (h:w.heap[b]?=some (.cells cs' t f)):(w.setRow b cs).heap[b]?=some (.cells cs t f):=by
 simp [World.setRow,Array.getElem?_modify,h]
theorem Ob (x:Nat) (h:x<4294967296):4294967295 ^^^ x=4294967295 - x:=by
 apply Nat.eq_of_testBit_eq;intro i;have h1:=Nat.testBit_two_pow_sub_succ (n:=32) (x:=x) h i;have h2:=Nat.testBit_two_pow_sub_one 32 i;rw [show 2 ^ 32 - (x+1)=4294967295 - x by omega] at h1;rw [show 2 ^ 32 - 1=4294967295 from rfl] at h2;rw [Nat.testBit_xor,h1,h2];by_cases hi:i<32
 ·simp [hi]
 ·have h3:x.testBit i=false:=Nat.testBit_lt_two_pow (Nat.lt_of_lt_of_le (show x<2 ^ 32 from h) (Nat.pow_le_pow_right (by omega) (by omega)))
  simp [hi,h3]
theorem TS (x:Nat) (h:x<4294967296):bits .xor .u32 IntKind.u32.max (x:Int)=((4294967295 - x:Nat):Int):=by
 have h2:=u32_xor_nat 4294967295 x (by omega) h;rw [Ob x h] at h2;exact h2
theorem EW (s:Nat) (c:UInt8) (r:Bytes):pV s (c :: r)=pV (mY s c.toNat) r:=rfl
theorem z132 {p : Prop} (h : p := by
 rw [show ((15 : Nat) : Int) = 15 from rfl] at this
 rw [this, show (15 : Nat) = 2 ^ 4 - 1 from rfl, Nat.and_two_pow_sub_one_eq_mod]) : p := h
theorem TR (s:Nat) (a:Option Addr) (cap:Nat) (l:Bytes) (w:World) (hs:s<4294967296) (hl:l.length<=1073741824) (h:BytesIn w a l) :
 Calls prog 166 #[.agg #[.int .u32 s],.slice a l.length cap] w fun e w'=>e=.returned (.agg #[.int .u32 ((4294967295 - pV (4294967295 - s) l:Nat):Int)])/\Below w.heap.size w w':=by
 have HT:=aq (fun (W:World)=>table_any W);go_enter func166,ntmps166;go_upto_region 2 with fail
 refine aI (fun W hW=>?_);have hb0:Below w.heap.size w W:=by rw [hW.out];go_grown
 have hin:=h.kept hb0;have hZ:W.heap[w.heap.size+1]?=some (.cells #[.int .u32 0] 239 (0,0)):=by
  rw [hW.out];have:=heap_alloc_last (w.alloc (Obj.cells #[.int .u32 s] 239)) (.cells #[.int .u32 0] 239);simpa only [World.size_alloc] using this
 have hz:w.heap.size+1<W.heap.size:=by rw [hW.out];simp
 clear hW h;go_upto_region 3 with (first
  | (go_at_call 204;(with_reducible refine (HT.out _).mono ?_);rintro v w1 ⟨rfl,hb⟩)
  | (refine cZ 278 _ _ _ uk rfl rfl (by kernel_rfl) rfl (by kernel_rfl) ?_))
 refine aI (fun W2 hW2=>?_);have hb1:Below w1.heap.size w1 W2:=by rw [hW2.out];go_grown
 have hC:∀ k,k<16->W2.cell? ⟨w1.heap.size,k,none⟩=some (.int .u32 ((rq.getD k 0:Nat):Int)):=by
  intro k hk;rw [hW2.out,World.cell?_alloc_new];exact JK k hk
 replace hZ:=(hb1.block _ (Nat.lt_of_lt_of_le hz hb.size)).trans ((hb.block _ hz).trans hZ);replace hin:=(hin.kept hb).kept hb1;replace hb:=below2 (below2 hb0 hb) hb1;have hn0:w.heap.size+1<W2.heap.size:=lt_of_block hZ;clear hb0 hb1 hz hW2 HT;generalize w1.heap.size=T at *;go_wp2;go_loop [5,15] (fun x i=>∃ k m:Nat,k<=l.length/\m<4294967296/\x=.int .u32 m/\i=.int .i64 k/\pV (4294967295 - s) l=pV m (l.drop k)) (fun _ i=>l.length - (intOf i).toNat)
 case atStart=>exact ⟨0,4294967295 - s,Nat.zero_le _,by omega,by rw [TS s hs],rfl,rfl⟩
 case round =>
  obtain ⟨k,m,hk,hm,rfl,rfl,hpre⟩:=hrel;have HP:=aq hpre;clear hpre;by_cases hlt:k<l.length
  ·rcases hin with h0 | ⟨A,off,rfl,hB⟩
   ·rw [h0] at hlt;simp at hlt
   have hc:=hB.cell hlt;have HS:Hid (pV (4294967295 - s) l=pV (mY m l[k].toNat) (l.drop (k+1))) :=
        HP.out.trans ((congrArg (pV m) (List.drop_eq_getElem_cons hlt)).trans (EW _ _ _))
   clear HP;obtain ⟨c,hcc⟩:∃ c,c=l[k]:=⟨_,rfl⟩;rw [<- hcc] at hc HS;clear hcc;have hcl:=c.toNat_lt;have hx1:bits .xor .u32 (m:Int) (c.toNat:Int)=((m ^^^ c.toNat:Nat):Int):=u32_xor_nat _ _ hm (by omega);have hq0:m ^^^ c.toNat<4294967296:=Nat.xor_lt_two_pow (n:=32) hm (by omega);have HQ:Hid (mY m c.toNat=step4 (step4 (m ^^^ c.toNat))):=rfl;generalize m ^^^ c.toNat=q at hx1 hq0 HQ;have hr0:=wF hq0;have hq1:bits .xor .u32 ((q:Int) / 16) ((rq.getD (q % 16) 0:Nat):Int)=((step4 q:Nat):Int):=by
        rw [show ((q:Int) / 16)=((q / 16:Nat):Int) by omega,u32_xor_nat _ _ (by omega) (EU ⟨q % 16,by omega⟩),<- Ea]
   have hr1:bits .xor .u32 (((step4 q:Nat):Int) / 16) ((rq.getD (step4 q % 16) 0:Nat):Int)=((step4 (step4 q):Nat):Int):=by
        rw [show (((step4 q:Nat):Int) / 16)=((step4 q / 16:Nat):Int) by omega,u32_xor_nat _ _ (by omega) (EU ⟨step4 q % 16,by omega⟩),<- Ea]
   have hs0:=wF hr0;generalize step4 q=r at *;generalize step4 r=t at *;have ha1:bits .and .u32 (q:Int) 15=((q % 16:Nat):Int):=by
        have:=u32_and_nat q 15 hq0 (by decide)
        exact z132
   have ha2:bits .and .u32 (r:Int) 15=((r % 16:Nat):Int):=by
        have:=u32_and_nat r 15 hr0 (by decide)
        exact z132
   have hc1:=hC (q % 16) (by omega);have hc2:=hC (r % 16) (by omega);generalize rq.getD (q % 16) 0=u1 at hq1 hc1;generalize rq.getD (r % 16) 0=u2 at hr1 hc2;have hne:((k:Int) == (l.length:Int))=false:=by rw [beq_eq_false_iff_ne];omega
   have hw1:q % 16<16:=by omega
   have hw2:r % 16<16:=by omega
   rw [HQ.out] at HS;clear hC;go_wp2;go_round
   case rel=>exact ⟨k+1,t,by omega,hs0,rfl,by go_num,HS.out⟩
   case measure => exact z67
  ·have HE:Hid (pV (4294967295 - s) l=m):=HP.out.trans (congrArg (pV m) (List.drop_eq_nil_of_le (by omega)))
   have hm2:=TS m hm;clear hC;go_wp2_with (refine wpList_store_row rfl 239 _ _ rfl (w.heap.size+1) #[.int .u32 ((4294967295 - m:Nat):Int)] rfl rfl 239 #[.int .u32 0] hZ (by kernel_rfl) rfl (by kernel_rfl) ?_)
   refine ed _ _ 239 (w.heap.size+1) #[.int .u32 ((4294967295 - m:Nat):Int)] _ rfl rfl (Fq _ _ _ _ _ _ hZ) underlying239 rfl (by kernel_rfl) rfl ?_;rw [HE.out];exact ⟨rfl,below_setRow hb (by omega) _⟩
theorem Lc (w:World):Calls prog 165 #[] w fun e w'=>e=.returned (.agg #[.int .u32 0])/\Below w.heap.size w w':=by
 go_enter func165,ntmps165;go_wp2_with (refine cZ 239 _ _ _ #[.int .u32 0] rfl rfl (by kernel_rfl) rfl (by kernel_rfl) ?_)
 refine ed 0 _ 239 w.heap.size #[.int .u32 0] _ rfl rfl (heap_alloc_last w _) underlying239 rfl (by kernel_rfl) rfl ⟨rfl,(bh _ _).alloc (ar _) _⟩
theorem Fg (s:Nat) (w:World):Calls prog 167 #[.agg #[.int .u32 s]] w fun e w'=>e=.returned (.int .u32 s)/\Below w.heap.size w w':=by
 go_enter func167,ntmps167;go_wp2;go_ret;exact ⟨rfl,(bh _ _).alloc (ar _) _⟩
theorem Dl (a:Option Addr) (cap:Nat) (l:Bytes) (w:World) (hl:l.length<=1073741824) (h:BytesIn w a l) :
 Calls prog 123 #[.slice a l.length cap] w fun e w'=>e=.returned (.int .u32 ((fK l:Nat):Int))/\Below w.heap.size w w':=by
 have HN:=aq (fun (W:World)=>Lc W);have HA0:∀ (W:World),BytesIn W a l->Calls prog 166 #[.agg #[.int .u32 0],.slice a l.length cap] W fun e w'=>e=.returned (.agg #[.int .u32 ((4294967295 - pV 4294967295 l:Nat):Int)])/\Below W.heap.size W w':=fun W h=>TR 0 a cap l W (by omega) hl h;have HA:=aq HA0;clear HA0;have HS:=aq (fun (n:Nat) (W:World)=>Fg n W);have HE:Hid (fK l=4294967295 - pV 4294967295 l):=rfl;go_enter func123,ntmps123;go_wp2_with (first
  | (go_at_call 165;(with_reducible refine (HN.out _).mono ?_);rintro v w1 ⟨rfl,hb⟩;replace h:=h.kept hb)
  | (go_at_call 166;(with_reducible refine (HA.out _ h).mono ?_);rintro v w2 ⟨rfl,hb2⟩;replace hb:=below2 hb hb2)
  | (go_at_call 167;(with_reducible refine (HS.out _ _).mono ?_);rintro v w3 ⟨rfl,hb3⟩;replace hb:=below2 hb hb3))
 go_ret;rw [HE.out];exact ⟨rfl,hb⟩
def L6:Nat->Nat->Nat
 | 0,s=>s
 | k+1,s=>L6 k (fZ s)
theorem Le (s c:Nat):mY s c=L6 8 (s ^^^ c):=rfl
theorem NQ (s:Nat) (c:UInt8) (w:World) (hs:s<4294967296):Calls prog 127 #[.int .u32 s,.int .u8 c.toNat] w fun e w'=>e=.returned (.int .u32 ((mY s c.toNat:Nat):Int))/\w=w':=by
 have hcl:=c.toNat_lt;have HB:=aq (Le s c.toNat);have hx1:bits .xor .u32 (s:Int) (c.toNat:Int)=((s ^^^ c.toNat:Nat):Int):=u32_xor_nat _ _ hs (by omega);have hq0:s ^^^ c.toNat<4294967296:=Nat.xor_lt_two_pow (n:=32) hs (by omega);generalize s ^^^ c.toNat=q at hx1 hq0 HB;generalize mY s c.toNat=R at HB ⊢;go_enter func127,ntmps127;go_wp2;go_loop [0,5] (fun x i=>∃ k m:Nat,k<=8/\m<4294967296/\x=.int .u32 m/\i=.int .i64 k/\R=L6 (8 - k) m) (fun _ i=>8 - (intOf i).toNat)
 case atStart=>exact ⟨0,q,Nat.zero_le _,hq0,rfl,rfl,HB.out⟩
 case round =>
  obtain ⟨k,m,hk,hm,rfl,rfl,hpre⟩:=hrel;have HP:=aq hpre;clear hpre HB hq0 hx1;by_cases hlt:k<8
  ·obtain ⟨j,hj⟩:∃ j,8 - k=j+1:=⟨7 - k,by omega⟩
   have HS:Hid (R=L6 j (fZ m)):=by have:=HP.out;rw [hj] at this;exact this
   have hj2:8 - (k+1)=j:=by omega
   have hr0:=oL hm;clear HP hj;by_cases hod:m % 2=1
   ·have hp:bits .xor .u32 ((m:Int) / 2) 3988292384=((fZ m:Nat):Int):=by
     have:=u32_xor_nat (m / 2) zX (by omega) (by decide);unfold fZ;rw [if_pos hod,<- this];rfl
    have hq:((m:Int) % 2 == 1)=true:=by rw [beq_iff_eq];omega
    generalize fZ m=r at *;clear hod;go_wp2;go_round
    case rel=>exact ⟨k+1,r,by omega,hr0,rfl,by go_num,by rw [hj2];exact HS.out⟩
    case measure => exact z67
   ·have hp:Hid (((fZ m:Nat):Int)=(m:Int) / 2):=by
     unfold Hid fZ;rw [if_neg hod];omega
    have hq:((m:Int) % 2 == 1)=false:=by rw [beq_eq_false_iff_ne];omega
    generalize fZ m=r at *;clear hod;go_wp2;go_round
    case rel=>exact ⟨k+1,r,by omega,hr0,by rw [hp.out],by go_num,by rw [hj2];exact HS.out⟩
    case measure => exact z67
  ·have HE:Hid (R=m):=by have:=HP.out;rw [show 8 - k=0 by omega] at this;exact this
   go_wp2;go_ret;rw [HE.out];exact ⟨rfl,rfl⟩
theorem PQ (a:Option Addr) (cap:Nat) (l:Bytes) (w:World) (hl:l.length<=1073741824) (h:BytesIn w a l) :
 Calls prog 83 #[.slice a l.length cap] w fun e w'=>e=.returned (.int .u32 ((fK l:Nat):Int))/\w=w':=by
 have HB:=aq (fun (s:Nat) (c:UInt8) (W:World) (hs:s<4294967296)=>NQ s c W hs);have HF:Hid (fK l=4294967295 - pV 4294967295 l):=rfl;go_enter func83,ntmps83;go_wp2;go_loop [3,4] (fun x i=>∃ k m:Nat,k<=l.length/\m<4294967296/\x=.int .u32 m/\i=.int .i64 k/\pV 4294967295 l=pV m (l.drop k)) (fun _ i=>l.length - (intOf i).toNat)
 case atStart=>exact ⟨0,4294967295,Nat.zero_le _,by omega,rfl,rfl,rfl⟩
 case round =>
  obtain ⟨k,m,hk,hm,rfl,rfl,hpre⟩:=hrel;have HP:=aq hpre;clear hpre;by_cases hlt:k<l.length
  ·rcases h with h0 | ⟨A,off,rfl,hb⟩
   ·rw [h0] at hlt;simp at hlt
   have hc:=hb.cell hlt;have HS:Hid (pV 4294967295 l=pV (mY m l[k].toNat) (l.drop (k+1))) :=
        HP.out.trans ((congrArg (pV m) (List.drop_eq_getElem_cons hlt)).trans (EW _ _ _))
   clear HP HF;obtain ⟨c,hcc⟩:∃ c,c=l[k]:=⟨_,rfl⟩;rw [<- hcc] at hc HS;clear hcc;have hcl:=c.toNat_lt;have hr0:=Ld hm hcl;go_wp2_with (go_at_call 127;(with_reducible refine (HB.out _ _ _ hm).mono ?_);rintro v w1 ⟨rfl,rfl⟩)
   go_round
   case rel=>exact ⟨k+1,_,by omega,hr0,rfl,by go_num,HS.out⟩
   case measure => exact z67
  ·have HE:Hid (fK l=4294967295 - m):=HF.out.trans (congrArg (4294967295 - ·) (HP.out.trans (congrArg (pV m) (List.drop_eq_nil_of_le (by omega)))))
   clear HP HF;go_wp2;go_ret;rw [HE.out];exact ⟨eH (by omega),rfl⟩
end Go.Proofs.YthphepeniaemoaaGreat
/- Bytes in frames: a number's four bytes, slices one behind the other, a body's frame. Conditions: at most 2^28 bytes. -/
namespace Go.Proofs.YthphepeniaemoaaGreat
open Go.RowKit
/-- a number's four bytes, the lowest first -/
def le4 (n:Nat):Bytes:=[UInt8.ofNat (n % 256),UInt8.ofNat (n / 256 % 256),UInt8.ofNat (n / 65536 % 256),UInt8.ofNat (n / 16777216 % 256)]
/-- a body's frame -/
def dJ (body:Bytes):Bytes:=aj body.length++body++le4 (fK body)
theorem JU (n:Nat) (w:World) (hn:n<4294967296):Calls prog 164 #[.int .u64 n,.int .i64 32] w fun e w'=>e=.returned (.bool true)/\w=w':=by
 have h0:((n:Int) / 4294967296 == 0)=true:=by rw [beq_iff_eq];omega
 go_enter func164,ntmps164;go_wp2;go_ret;exact ⟨rfl,rfl⟩
def Rl (n:Nat) (w:World) (e:Ending) (w':World):Prop :=
 ∃ v,e=.returned (.tuple #[v,.int .i64 0])/\w'.ownsRow w.heap.size 5 1 v 4 (aA (le4 n))/\Below w.heap.size w w'
def jJ (a b c d:Int):Array Value:=#[.int .u8 a,.int .u8 b,.int .u8 c,.int .u8 d]
theorem Py (n:Nat):(jJ ((n % 256:Nat):Int) ((n / 256 % 256:Nat):Int) ((n / 65536 % 256:Nat):Int) ((n / 16777216 % 256:Nat):Int)).toList=aA (le4 n):=by
 have h:∀ m:Nat,(UInt8.ofNat (m % 256)).toNat=m % 256:=fun m=>by rw [UInt8.toNat_ofNat'];omega
 simp [jJ,aA,le4,h]
theorem Nw (w:World) (B:Nat) (a b c d:Int) (t:TypeId) (f:Nat×Nat) (h:w.heap[B]?=some (.cells (jJ a b c d) t f)) :
 (∀ x,(w.setCell ⟨B,0,none⟩ (.int .u8 x)).heap[B]?=some (.cells (jJ x b c d) t f))/\(∀ x,(w.setCell ⟨B,1,none⟩ (.int .u8 x)).heap[B]?=some (.cells (jJ a x c d) t f)) /\
 (∀ x,(w.setCell ⟨B,2,none⟩ (.int .u8 x)).heap[B]?=some (.cells (jJ a b x d) t f))/\(∀ x,(w.setCell ⟨B,3,none⟩ (.int .u8 x)).heap[B]?=some (.cells (jJ a b c x) t f)):=by
 refine ⟨fun x=>?_,fun x=>?_,fun x=>?_,fun x=>?_⟩ <;> simp [World.setCell,Array.getElem?_modify,h,jJ]
theorem Lp (w:World) (B:Nat) (a b c d:Int) (t:TypeId) (h:w.heap[B]?=some (.cells (jJ a b c d) t (0,0))) :
 w.cell? ⟨B,0,none⟩=some (.int .u8 a)/\w.cell? ⟨B,1,none⟩=some (.int .u8 b)/\w.cell? ⟨B,2,none⟩=some (.int .u8 c)/\w.cell? ⟨B,3,none⟩=some (.int .u8 d)/\(∀ o,w.frozen? ⟨B,o,none⟩=false):=by
 simp [World.cell?,World.frozen?,h,jJ]
theorem kX {B:Nat} {W w:World} (h:Below B W w) {g o:Nat} (hg:B<=g) (v:Value):Below B W (w.setCell ⟨g,o,none⟩ v) :=
 h.trans ⟨rfl,rfl,rfl,by simp [World.setCell],fun k hk=>by simp [World.setCell,Array.getElem?_modify];omega⟩
theorem y78 {p q : Prop} (k : q) (h : PLift q -> p := by
 intro kk
 obtain ⟨q0, q1, q2, q3, qf⟩ := Lp _ _ _ _ _ _ _ hB1
 have HS := aq (Nw _ _ _ _ _ _ _ _ hB1)
 revert q0 q1 q2 q3 qf HS
 exact kk.down) : p := h ⟨k⟩
theorem LX (n:Nat) (w:World) (hn:n<4294967296):Calls prog 122 #[.int .u64 n,.int .i64 4] w (Rl n w):=by
 obtain ⟨i0,hi,hz0,hz1,hz2⟩:=info_parts Tryz.infoByte;have HR:=aq (fun (W:World)=>JU n W hn);have hmk:∀ W:World,(Instr.makeSlice 54 (.int .i64 4) (.int .i64 4)).run prog W=.ok (.slice (some ⟨W.heap.size,0,none⟩) 4 4) (W.alloc (.cells (jJ 0 0 0 0) 5)):=fun W=>by
  have h:=run_makeSlice W 54 5 i0 (.int .u8 0) underlying54 hi hz0 .i64 .i64 4 4 (by omega) (by omega) (by rw [hz1];decide) (by rw [hz2];decide) (by omega);rw [hz1,show madeCells (Value.int IntKind.u8 0).cells (Int.toNat 4 * 1)=jJ 0 0 0 0 by kernel_rfl] at h;exact h
 have hv:=aq (Py n);have hb0:Below w.heap.size w (w.alloc (.cells (jJ 0 0 0 0) 5)):=(bh _ _).alloc (ar _) _;have hB0:(w.alloc (.cells (jJ 0 0 0 0) 5)).heap[w.heap.size]?=some (.cells (jJ 0 0 0 0) 5 (0,0)):=heap_alloc_last w _;go_enter func122,ntmps122;go_wp2_with (go_at_call 164;(with_reducible refine (HR.out _).mono ?_);rintro v w1 ⟨rfl,rfl⟩)
 generalize w.alloc (.cells (jJ 0 0 0 0) 5)=W at hb0 hB0 ⊢;go_loopw [24] (fun i wr=>Below w.heap.size w wr/\∃ k:Nat,i=.int .i64 k/\k<=4/\wr.heap[w.heap.size]?=some (.cells (jJ (if 0<k then ((n % 256:Nat):Int) else 0) (if 1<k then ((n / 256 % 256:Nat):Int) else 0) (if 2<k then ((n / 65536 % 256:Nat):Int) else 0) (if 3<k then ((n / 16777216 % 256:Nat):Int) else 0)) 5 (0,0))) (fun i _=>4 - (intOf i).toNat)
 case atStart=>exact ⟨hb0,0,rfl,by omega,hB0⟩
 case round =>
  obtain ⟨hb,k,rfl,hk,hB⟩:=hrel;have hk5:k=0\/k=1\/k=2\/k=3\/k=4:=by omega
  clear hb0 hB0 hk;rcases hk5 with rfl | rfl | rfl | rfl | rfl
  ·have hB1:wr.heap[w.heap.size]?=some (.cells (jJ 0 0 0 0) 5 (0,0)):=hB
   refine y78 ?_
   intro q0 q1 q2 q3 qf HS
   have qf0:=qf 0;have hx:Hid ((n:Int)  % 256=((n % 256:Nat):Int)):=by unfold Hid;omega
   clear qf hB hB1;go_wp2;go_roundw
   case rel=>exact ⟨kX hb (ar _) _,1,rfl,by omega,by rw [hx.out];exact HS.out.1 _⟩
   case measure=>simp [intOf]
  ·have hB1:wr.heap[w.heap.size]?=some (.cells (jJ ((n % 256:Nat):Int) 0 0 0) 5 (0,0)):=hB
   refine y78 ?_
   intro q0 q1 q2 q3 qf HS
   have qf0:=qf 1;have hx:Hid ((n:Int) / 256  % 256=((n / 256 % 256:Nat):Int)):=by unfold Hid;omega
   clear qf hB hB1;go_wp2;go_roundw
   case rel=>exact ⟨kX hb (ar _) _,2,rfl,by omega,by rw [hx.out];exact HS.out.2.1 _⟩
   case measure=>simp [intOf]
  ·have hB1:wr.heap[w.heap.size]?=some (.cells (jJ ((n % 256:Nat):Int) ((n / 256 % 256:Nat):Int) 0 0) 5 (0,0)):=hB
   refine y78 ?_
   intro q0 q1 q2 q3 qf HS
   have qf0:=qf 2;have hx:Hid ((n:Int) / 65536  % 256=((n / 65536 % 256:Nat):Int)):=by unfold Hid;omega
   clear qf hB hB1;go_wp2;go_roundw
   case rel=>exact ⟨kX hb (ar _) _,3,rfl,by omega,by rw [hx.out];exact HS.out.2.2.1 _⟩
   case measure=>simp [intOf]
  ·have hB1:wr.heap[w.heap.size]?=some (.cells (jJ ((n % 256:Nat):Int) ((n / 256 % 256:Nat):Int) ((n / 65536 % 256:Nat):Int) 0) 5 (0,0)):=hB
   refine y78 ?_
   intro q0 q1 q2 q3 qf HS
   have qf0:=qf 3;have hx:Hid ((n:Int) / 16777216  = ((n / 16777216 % 256:Nat):Int)):=by unfold Hid;omega
   clear qf hB hB1;go_wp2;go_roundw
   case rel=>exact ⟨kX hb (ar _) _,4,rfl,by omega,by rw [hx.out];exact HS.out.2.2.2 _⟩
   case measure=>simp [intOf]
  ·have hB1:wr.heap[w.heap.size]?=some (.cells (jJ ((n % 256:Nat):Int) ((n / 256 % 256:Nat):Int) ((n / 65536 % 256:Nat):Int) ((n / 16777216 % 256:Nat):Int)) 5 (0,0)):=hB
   have HB:=aq hB1;clear hB hB1;go_wp2;go_ret2;exact ⟨_,rfl,⟨by rw [aU];rfl,.inr ⟨w.heap.size,4,_,rfl,ar _,HB.out,ar _,by decide,rfl,hv.out⟩⟩,hb⟩
theorem yQ (n:Nat):(Builtin.zeroCells #[Value.int .u8 0] n).size=n:=by simp [Builtin.zeroCells]
theorem RG (n:Nat) (w:World) (h0:0<n) (hn:n<=1073741824):Calls prog 168 #[.slice none 0 0,.int .i64 n] w fun e w' =>
 ∃ v,e=.returned v/\w'.ownsRow w.heap.size 5 1 v 0 []/\Below w.heap.size w w':=by
 obtain ⟨i0,hi,hz0,hz1,hz2⟩:=info_parts Tryz.infoByte;have hrun:∀ (W:World) (ty:TypeId),(Builtin.append_ #[54,3] ty #[.slice none 0 0,.int .i64 n]).run prog W =
  .ok (.slice (some ⟨W.heap.size,0,none⟩) n (grownCap W n 0 5)) (W.drew.alloc (.cells (Builtin.zeroCells (Value.int .u8 0).cells n++Builtin.zeroCells (Value.int .u8 0).cells (grownCap W n 0 5 - n)) 5)):=fun W ty=>by
  have h:=Lib.run_append_grow_zeros (P:=prog) W 54 3 ty 5 i0 (.int .u8 0) .i64 .i64 underlying54 underlying3 hi hz0 none 0 0 [] (run_firstCells_none W.drew i0.size 0 0 0) n h0 (by rw [hz1];decide) (by omega) (by omega) (by rw [hz2];omega)
   (by rw [hz2];exact growslice_fits (by omega) (by omega))
  rw [aw] at h;simpa using h
 have hG:=fun W:World=>grownCap_ge W n 0 5;have hG2:=fun W:World=>grownCap_le_maxLen W n 0 5 (by unfold maxLen;omega);have HG:=aq (ba hG hG2);clear hG hG2;go_enter func168,ntmps168;go_wp2_with (at_builtin;refine Lib.wpList_append_run _ rfl _ _ _ _ rfl _ _ rfl rfl _ _ (hrun _ _) ?_)
 go_ret;refine ⟨_,rfl,World.ownsRow_made w.drew _ _ (ar _) (HG.out.2 w) ?_,((bh w.heap.size w).drew).alloc (ar _) _⟩;have:=HG.out.1 w;rw [Array.size_append,yQ,yQ];omega
theorem JR (n:Nat):aj n≠[]:=by
 rw [aj];split <;> simp
/-- from block A on lie these slices of bytes -/
def SlicesAt (w:World) (A:Nat) (ls:List (Option Addr×Nat×Bytes)):Prop :=
 ∀ j (h:j<ls.length),w.cell? ⟨A,j,none⟩=some (.slice ls[j].1 ls[j].2.2.length ls[j].2.1)/\BytesIn w ls[j].1 ls[j].2.2
def gU (ls:List (Option Addr×Nat×Bytes)):Bytes:=ls.flatMap fun x=>x.2.2
theorem SlicesAt.kept {w w':World} {A:Nat} {ls:List (Option Addr×Nat×Bytes)} (h:SlicesAt w A ls) (hb:Below w.heap.size w w'):SlicesAt w' A ls:=fun j hj=>⟨Proofs.YthphepeniaemoaaGreat.kept hb (h j hj).1,(h j hj).2.kept hb⟩
theorem BH (ls:List (Option Addr×Nat×Bytes)) (k:Nat) (h:k<ls.length):gU (ls.take (k+1))=gU (ls.take k)++ls[k].2.2:=by
 unfold gU;rw [List.take_succ_eq_append_getElem h,List.flatMap_append];simp
theorem BI (ls:List (Option Addr×Nat×Bytes)) (k:Nat):(gU (ls.take k)).length<=(gU ls).length:=by
 have:gU ls=gU (ls.take k)++gU (ls.drop k):=by unfold gU;rw [<- List.flatMap_append,List.take_append_drop]
 rw [this];simp
theorem LW (A cap:Nat) (ls:List (Option Addr×Nat×Bytes)) (w:World) (hne:∀ x∈ls,x.2.2≠[]) (hl:(gU ls).length<=1073741824) (h0:0<(gU ls).length) (hls:ls.length<=1073741824) (h:SlicesAt w A ls) :
 Calls prog 124 #[.slice (some ⟨A,0,none⟩) ls.length cap] w (dO (gU ls) w):=by
 obtain ⟨i0,hi,hz0,hz1,hz2⟩:=info_parts Tryz.infoByte;have HG:=aq (fun (W:World)=>RG (gU ls).length W h0 hl);have HA:=aq h;go_enter func124,ntmps124;go_wp2;go_loop [3,11] (fun s i=>∃ k:Nat,k<=ls.length/\i=.int .i64 k/\s=.int .i64 ((gU (ls.take k)).length:Nat)) (fun _ i=>ls.length - (intOf i).toNat)
 case atStart=>exact ⟨0,Nat.zero_le _,rfl,rfl⟩
 case round =>
  obtain ⟨k,hk,rfl,rfl⟩:=hrel;by_cases hlt:k<ls.length
  ·have hc:=(h k hlt).1
   have hs:=congrArg List.length (BH ls k hlt);rw [av] at hs;have hle:=BI ls k;have hle2:=BI ls (k+1);rw [hs] at hle2;have HS:=aq hs;clear hs h;generalize ls[k]=x at *;generalize (gU (ls.take k)).length=n at *;have hneg:decide (((n:Int)+(x.2.2.length:Int))<0)=false:=aM (by omega);go_wp2;go_round
   case rel=>exact ⟨k+1,by omega,by go_num,by rw [HS.out];go_num⟩
   case measure => exact z67
  ·have hk2:Hid ((gU (ls.take k)).length=(gU ls).length):=by unfold Hid;rw [List.take_of_length_le (by omega)]
   rw [hk2.out];clear hk2;obtain ⟨n,hn⟩:∃ n,n=(gU ls).length:=⟨_,rfl⟩;rw [<- hn] at HG hl h0 ⊢;have HN:=aq hn;clear hn h;go_wp2_with (go_at_call 168;(with_reducible refine (HG.out _).mono ?_);rintro v w1 ⟨v,rfl,hown,hbt⟩)
   go_loopw [6,27] (fun out i wr=>Below w.heap.size w wr/\∃ k:Nat,k<=ls.length/\i=.int .i64 k/\wr.ownsRow w.heap.size 5 1 out (gU (ls.take k)).length (aA (gU (ls.take k)))) (fun _ i _=>ls.length - (intOf i).toNat)
   case atStart=>exact ⟨hbt,0,Nat.zero_le _,rfl,hown⟩
   case round =>
        clear hbt hown;obtain ⟨hbt,k,hk,rfl,hown⟩:=hrel;have hz:=hbt.size;have hA:=HA.out.kept (w':=wr) hbt;by_cases hlt:k<ls.length
        ·have hx:=hne _ (List.getElem_mem hlt)
         have hc:=(hA k hlt).1;have hin:=(hA k hlt).2;have hs:=BH ls k hlt;have hle2:=BI ls (k+1);rw [hs,av,<- HN.out] at hle2;have HS:=aq hs;clear hs hA;generalize ls[k]=x at *;obtain ⟨a,cap2,m⟩:=x;simp only at hx hc hin HS hle2;rcases hin with h9 | ⟨A',off,rfl,hb'⟩
         ·exact absurd h9 hx
         have hnews:=hb'.news;clear hx hb' hne HA;generalize gU (ls.take k)=d at *;go_wp2_with (at_builtin;refine wpList_append_own _ rfl _ _ 54 rfl w.heap.size 5 i0 (.int .u8 0) 1 1 underlying54 hi hz0 hz1 hz2 rfl (by decide) _ _ _ rfl hown ⟨A',off,none⟩ _ _ (aA m) rfl (by rw [aU];simp) hnews (bI _) (by unfold maxLen;omega) (by omega) (by omega) ?_;intro v2 w2 hown2 hgrow _;have hown3:w2.ownsRow w.heap.size 5 1 v2 (d++m).length (aA (d++m)):=(by rw [bG,av];exact hown2);have mG:=hbt.grown hgrow (by omega) (fun k hk=>(hown.lt k hk).1);have hz3:=Nat.le_trans hz hgrow.size;clear hown2 hgrow;replace hown:=hown3;replace hbt:=mG;replace hz:=hz3;clear hown3 mG hz3)
         go_roundw
         case rel=>exact ⟨hbt,k+1,by omega,by go_num,by rw [HS.out];exact hown⟩
         case measure => exact z67
        ·have hk2:Hid (gU (ls.take k)=gU ls):=by unfold Hid;rw [List.take_of_length_le (by omega)]
         rw [hk2.out] at hown;clear hk2 hA hne HA;go_wp2;go_ret;exact ⟨_,rfl,hown,hbt⟩
def Nv (x:Option Addr×Nat×Bytes):Value:=.slice x.1 x.2.2.length x.2.1
theorem GK (W:World) (t:TypeId) (x y z:Option Addr×Nat×Bytes) (hx:BytesIn W x.1 x.2.2) (hy:BytesIn W y.1 y.2.2) (hz:BytesIn W z.1 z.2.2) :
 SlicesAt (W.alloc (.cells #[Nv x,Nv y,Nv z] t)) W.heap.size [x,y,z]:=by
 have hb:Below W.heap.size W (W.alloc (.cells #[Nv x,Nv y,Nv z] t)):=(bh _ _).alloc (ar _) _;intro j hj;match j,hj with
 | 0,_=>exact ⟨by rw [World.cell?_alloc_new];rfl,hx.kept hb⟩
 | 1,_=>exact ⟨by rw [World.cell?_alloc_new];rfl,hy.kept hb⟩
 | 2,_=>exact ⟨by rw [World.cell?_alloc_new];rfl,hz.kept hb⟩
/-- what hands back bytes in memory of its own, and no error -/
def MX (l:Bytes) (w:World) (e:Ending) (w':World):Prop :=
 ∃ v,e=.returned (.tuple #[v,.int .i64 0])/\w'.ownsRow w.heap.size 5 1 v l.length (aA l)/\Below w.heap.size w w'
theorem qC (l:Bytes):fK l<4294967296:=by unfold fK;omega
theorem Gt (a a2:Option Addr) (cap cap2:Nat) (l body:Bytes) (w:World) (hl:l.length<=268435456) (hb:body.length<=1048576) (hne:body≠[]) (h1:BytesIn w a l) (h2:BytesIn w a2 body) :
 Calls prog 67 #[.slice a l.length cap,.slice a2 body.length cap2] w (MX (l++dJ body) w):=by
 have hS:=aq (fun (W:World) (h:BytesIn W a2 body)=>Dl a2 cap2 body W (by omega) h);have hq:=fun (W:World)=>LX (fK body) W (qC body);have hp:=fun (W:World) (h:BytesIn W a l)=>zZ a cap l body.length W (by omega) (by omega) h;have hl2:=aQ body.length (by omega);have hs2:=List.length_pos_iff.2 (JR body.length);have hwr:IntKind.u64.wrap ((fK body:Nat):Int)=((fK body:Nat):Int):=IntWalk.u64_in _ (by have:=qC body;omega);obtain ⟨d,hd⟩:∃ d,d=l++aj body.length:=⟨_,rfl⟩;have hdl:d.length=l.length+(aj body.length).length:=by rw [hd,av]
 obtain ⟨q,hq4⟩:∃ q,q=le4 (fK body):=⟨_,rfl⟩;have hql:q.length=4:=by rw [hq4];rfl
 rw [<- hd] at hp;unfold Rl at hq;rw [<- hq4,<- hql] at hq;have hbl:=List.length_pos_iff.2 hne;have HR:Hid (l++dJ body=gU [((none:Option Addr),0,d),(none,0,body),(none,0,q)]):=by
  unfold Hid dJ;rw [hd,hq4];simp [gU]
 have hJ:∀ (x y z:Option Addr) (i j k:Nat),gU [(x,i,d),(y,j,body),(z,k,q)]=gU [((none:Option Addr),0,d),(none,0,body),(none,0,q)]:=fun _ _ _ _ _ _=>rfl;have hJl:(gU [((none:Option Addr),0,d),(none,0,body),(none,0,q)]).length=d.length+(body.length+q.length):=by simp [gU]
 have HC:Hid (∀ (x y z:Option Addr) (i j k:Nat) (W:World),BytesIn W x d->BytesIn W y body->BytesIn W z q->∀ (t:TypeId),
  Calls prog 124 #[.slice (some ⟨W.heap.size,0,none⟩) 3 3] (W.alloc (.cells #[.slice x d.length i,.slice y body.length j,.slice z q.length k] t))
        (dO (gU [((none:Option Addr),0,d),(none,0,body),(none,0,q)]) (W.alloc (.cells #[.slice x d.length i,.slice y body.length j,.slice z q.length k] t)))):=by
  intro x y z i j k W hx hy hz t;refine LW W.heap.size 3 [(x,i,d),(y,j,body),(z,k,q)] _ ?_ ?_ ?_ (by simp) (GK W t (x,i,d) (y,j,body) (z,k,q) hx hy hz)
  ·intro u hu
   simp only [List.mem_cons,List.not_mem_nil,or_false] at hu;rcases hu with rfl | rfl | rfl
   ·exact List.length_pos_iff.1 (by rw [hdl];omega)
   ·exact hne
   ·exact List.length_pos_iff.1 (by rw [hql];omega)
  ·rw [hJ,hJl];omega
  ·rw [hJ,hJl];omega
 have HP:=aq hp;have HQ:=aq hq;have HL:=aq hql;clear hp hq hd hq4 hdl hJ hJl hl2 hs2 hql;go_enter func67,ntmps67;go_wp2_with (first
  | (go_at_call 123;(with_reducible refine (hS.out _ h2).mono ?_);rintro x w1 ⟨rfl,hb1⟩;replace h1:=h1.kept hb1;replace h2:=h2.kept hb1)
  | (go_at_call 122;(with_reducible refine (HQ.out _).mono ?_);rintro x w2 ⟨v,rfl,hown,hb2⟩;replace h1:=h1.kept hb2;replace h2:=h2.kept hb2;replace hb2:=below2 hb1 hb2;obtain ⟨a3,cap3,rfl,oD⟩:=bP hown;clear hown)
  | (go_at_call 121;(with_reducible refine (HP.out _ h1).mono ?_);rintro x w3 ⟨v,rfl,hown,hb3⟩;obtain ⟨a1,cap1,rfl,hin1⟩:=bP hown;clear hown h1;replace h2:=h2.kept hb3;replace oD:=oD.kept hb3;replace hb3:=below2 hb2 hb3)
  | (go_at_call 124;refine (HC.out _ _ _ _ _ _ _ hin1 h2 oD _).mono ?_;rintro x w4 ⟨v,rfl,hown,hb4⟩))
 go_ret2;rw [HR.out];refine ⟨_,rfl,eP hown (by have:=hb3.size;simp;omega),below2 (below2 hb3 ((bh _ _).alloc (ar _) _)) hb4⟩
end Go.Proofs.YthphepeniaemoaaGreat
/- Bytes in frames, read: a number of four bytes, a frame, one frame. Conditions: at most 2^30 bytes. -/
namespace Go.Proofs.YthphepeniaemoaaGreat
open Go.RowKit
/-- the number of bytes, the lowest first -/
def jK:Bytes->Nat
 | []=>0
 | c :: r=>c.toNat+256 * jK r
theorem Bh:∀ l:Bytes,jK l<256 ^ l.length
 | []=>by simp [jK]
 | c :: r=>by
   have:=Bh r;have:=c.toNat_lt;simp only [jK,List.length_cons,Nat.pow_succ];omega
theorem Bg:∀ (l:Bytes) (c:UInt8),jK (l++[c])=jK l+c.toNat * 256 ^ l.length
 | [],c=>by simp [jK]
 | a :: r,c=>by
   have:=Bg r c;simp only [List.cons_append,jK,this,List.length_cons,Nat.pow_succ];rw [Nat.mul_add,Nat.add_assoc];congr 2
   rw [Nat.mul_left_comm,Nat.mul_comm 256]
theorem P6 (m k c:Nat) (hk:k<=7) (hm:m<256 ^ k) (hc:c<256):bits BinOp.or IntKind.u64 (m:Int) (IntKind.u64.wrap ((c:Int) * 2 ^ (8 * k)))=((m+c * 256 ^ k:Nat):Int):=by
 have e:(2:Int) ^ (8 * k)=((256 ^ k:Nat):Int):=by
  have h:(2:Nat) ^ (8 * k)=256 ^ k:=by rw [Nat.pow_mul]
  rw [<- h];simp
 have hp:256 ^ k<=256 ^ 7:=Nat.pow_le_pow_right (by omega) hk;have h4:256 ^ 7=72057594037927936:=by decide
 have hx:c * 256 ^ k+256 ^ k<=18446744073709551616:=by
  have h3:c * 256 ^ k<=255 * 256 ^ k:=Nat.mul_le_mul_right _ (by omega);omega
 have e2:((c:Int) * 2 ^ (8 * k))=((c * 256 ^ k:Nat):Int):=by rw [e];simp
 have hpos:0<256 ^ k:=Nat.pow_pos (by omega);rw [e2,IntWalk.u64_in _ (by omega),u64_or_nat m (c * 256 ^ k) (by omega) (by omega)];have h7:(256:Nat) ^ k=2 ^ (8 * k):=by rw [Nat.pow_mul]
 have h8:m ||| c * 256 ^ k=c * 256 ^ k+m:=by
  rw [h7] at hm ⊢;rw [Nat.or_comm,<- Nat.shiftLeft_eq,Nat.shiftLeft_add_eq_or_of_lt hm]
 rw [h8,Nat.add_comm]
theorem Gm (a:Option Addr) (cap:Nat) (l:Bytes) (w:World) (h4:l.length=4) (h:BytesIn w a l) :
 Calls prog 174 #[.slice a l.length cap] w fun e w'=>e=.returned (.tuple #[.int .u64 (jK l:Nat),.int .i64 0])/\w=w':=by
 rcases h with h0 | ⟨A,off,rfl,hb⟩
 ·rw [h0] at h4;simp at h4
 have H4:=aq h4;have hls:l.length<=4/\4<=l.length:=by omega
 have hl0:((l.length:Int) == 0)=false:=by rw [beq_eq_false_iff_ne];omega
 have hl8:decide ((l.length:Int)>8)=false:=aM (by omega);clear h4;go_enter func174,ntmps174;go_wp2;go_loop [4,17] (fun n i=>∃ k:Nat,k<=l.length/\i=.int .i64 k/\n=.int .u64 (jK (l.take k):Nat)) (fun _ i=>l.length - (intOf i).toNat)
 case atStart=>exact ⟨0,Nat.zero_le _,rfl,rfl⟩
 case round =>
  obtain ⟨k,hk,rfl,rfl⟩:=hrel;by_cases hlt:k<l.length
  ·have hc:=hb.cell hlt
   have hs:=Bg (l.take k) l[k];rw [<- List.take_succ_eq_append_getElem hlt,List.length_take,Nat.min_eq_left (by omega)] at hs;have hm:=Bh (l.take k);rw [List.length_take,Nat.min_eq_left (by omega)] at hm;have hcl:=l[k].toNat_lt;have ho:=P6 (jK (l.take k)) k l[k].toNat (by omega) hm hcl;rw [<- hs] at ho;generalize jK (l.take k)=m at *;obtain ⟨m2,hm2⟩:∃ m2,m2=jK (l.take (k+1)):=⟨_,rfl⟩;rw [<- hm2] at ho;have HM:=aq hm2;generalize l[k]=c at *;clear hs hm hm2;go_wp2;go_round
   case rel=>exact ⟨k+1,by omega,by go_num,by rw [<- HM.out]⟩
   case measure => exact z67
  ·have hk2:Hid (l.take k=l):=List.take_of_length_le (by omega)
   rw [hk2.out];clear hk2;go_wp2;go_ret2;exact ⟨rfl,rfl⟩
/-- the frame that bytes begin with: its body, how many bytes it has, the error -/
def iK (b:Bytes):Bytes×Nat×Int :=
 if (dD b).2.2=0 then
    (if 1048576<(dD b).1 then ([],0,3)
    else if b.length<(dD b).2.1+(dD b).1+4 then ([],0,2)
    else if jK ((b.drop ((dD b).2.1+(dD b).1)).take 4)=fK ((b.drop (dD b).2.1).take (dD b).1) then ((b.drop (dD b).2.1).take (dD b).1,(dD b).2.1+(dD b).1+4,0)
    else ([],0,5))
 else ([],0,(dD b).2.2)
/-- behind frame.Get -/
def Rw (r:Bytes×Nat×Int) (w:World) (e:Ending) (w':World):Prop :=
 ∃ v,e=.returned (.tuple #[v,.int .i64 r.2.1,.int .i64 r.2.2])/\w'.ownsRow w.heap.size 5 1 v r.1.length (aA r.1)/\Below w.heap.size w w'
theorem BytesIn.part {w:World} {a:Option Addr} {l:Bytes} (h:BytesIn w a l) (i n:Nat):BytesIn w (a.map (fun x=>x.add i)) ((l.drop i).take n):=by
 rcases h with h | ⟨A,off,rfl,hb⟩
 ·exact bb (by rw [h];simp)
 ·refine bd ⟨A,off+i,by simp [Addr.add_mid],fun j hj=>?_⟩
  have hj2:j<l.length - i/\j<n:=by simp at hj;omega
  have:=hb (i+j) (by omega);rw [<- Nat.add_assoc] at this;rw [this,List.getElem_take,List.getElem_drop]
theorem Ee (w w':World) (k:Int) (hb:Below w.heap.size w w'):Rw ([],0,k) w (.returned (.tuple #[.slice none 0 0,.int .i64 0,.int .i64 k])) w':=⟨_,rfl,World.ownsRow_nil _ _ _ _,hb⟩
theorem z57 {p : Prop} (h : p := by
 clear HV
 rw [HE.out]
 go_enter func131, ntmps131
 go_wp2_with (go_at_call 133; (with_reducible refine HG.out.mono ?_); rintro x w1 ⟨rfl, rfl⟩)
 go_ret3
 exact Ee _ _ _ (bh _ _)) : p := h
theorem z40 {p : Prop} (h : p := by
 go_enter func131, ntmps131
 go_wp2_with (first
      | (go_at_call 133; (with_reducible refine HG.out.mono ?_); rintro x w1 ⟨rfl, rfl⟩)
      | (go_at_call 174; (with_reducible refine (HN.out _ _ _ (by first | exact HI.out.2 _ h | simpa using HI.out.2 _ h)).mono ?_); rintro x w2 ⟨rfl, rfl⟩)
      | (go_at_call 123; (with_reducible refine (HC.out _ _ _ (by first | exact HI.out.1 _ h | exact HBN.out _ _)).mono ?_); rintro x w3 ⟨rfl, hb1⟩; replace h := h.kept hb1)
      | (go_at_call 125; (with_reducible refine (HK.out _ _ _ (by first | exact HI.out.1 _ h | exact HBN.out _ _)).mono ?_); rintro x w4 ⟨v, rfl, hown, hb2⟩))
 go_ret3
 exact Ee _ _ _ hb1) : p := h
theorem Gv (a:Option Addr) (cap:Nat) (l:Bytes) (w:World) (hl:l.length<=1073741824) (hcap:l.length<=cap) (h:BytesIn w a l) :
 Calls prog 131 #[.slice a l.length cap] w (Rw (iK l) w):=by
 have hd:=Gs a cap l w hl h;have hfit:=tJ l;have HV:Hid (iK l=if (dD l).2.2=0 then
  (if 1048576<(dD l).1 then ([],0,3)
  else if l.length<(dD l).2.1+(dD l).1+4 then ([],0,2)
  else if jK ((l.drop ((dD l).2.1+(dD l).1)).take 4)=fK ((l.drop (dD l).2.1).take (dD l).1) then ((l.drop (dD l).2.1).take (dD l).1,(dD l).2.1+(dD l).1+4,0)
  else ([],0,5))
 else ([],0,(dD l).2.2)):=rfl
 obtain ⟨n,k,e,hg⟩:∃ n k e,dD l=(n,k,e):=⟨_,_,_,rfl⟩;rw [hg] at hd hfit HV;simp only at hd hfit HV;clear hg;have HG:=aq hd;clear hd;rcases hfit with ⟨rfl,hn,hk0,hkl⟩ | ⟨he2,rfl,rfl⟩
 ·replace HV:=aq (HV.out.trans (if_pos rfl))
  by_cases hbig:1048576<n
  ·have HE:=aq (HV.out.trans (if_pos hbig))
   exact z57
  ·replace HV:=aq (HV.out.trans (if_neg hbig))
   by_cases hsh:l.length<k+n+4
   ·have HE:=aq (HV.out.trans (if_pos hsh))
    have hlt:decide ((l.length:Int) - (k:Int) - 4<(n:Int))=true:=aR (by omega)
    exact z57
   ·have hlt:decide ((l.length:Int) - (k:Int) - 4<(n:Int))=false:=aM (by omega)
    replace HV:=aq (HV.out.trans (if_neg hsh));have hnb:n<=1048576:=by omega
    have XT:k+n+4<=l.length:=by omega
    have hBl:((l.drop k).take n).length=n:=by simp;omega
    have hQl:((l.drop (k+n)).take 4).length=4:=by simp;omega
    have hBi:=fun (W:World) (h:BytesIn W a l)=>BytesIn.part h k n;have hQi:=fun (W:World) (h:BytesIn W a l)=>BytesIn.part h (k+n) 4;have hql:=Bh ((l.drop (k+n)).take 4);rw [hQl,show 256 ^ 4=4294967296 by decide] at hql;have hcl:=qC ((l.drop k).take n);have hN:=fun (x:Option Addr) (c:Nat) (W:World) (h:BytesIn W x ((l.drop (k+n)).take 4))=>Gm x c ((l.drop (k+n)).take 4) W hQl h;have hC:=fun (x:Option Addr) (c:Nat) (W:World) (h:BytesIn W x ((l.drop k).take n))=>Dl x c ((l.drop k).take n) W (by omega) h;have hK:=fun (x:Option Addr) (c:Nat) (W:World) (h:BytesIn W x ((l.drop k).take n))=>lg x c ((l.drop k).take n) W (by omega) h;rw [hQl] at hN;rw [hBl] at hC hK;generalize (l.drop k).take n=B at *;generalize (l.drop (k+n)).take 4=Q at *;generalize jK Q=q at *;generalize fK B=c at *;have hwr:IntKind.u32.wrap (q:Int)=(q:Int):=IntWalk.u32_in _ (by omega);have HN:=aq hN;have HC:=aq hC;have HK:=aq hK;have HI:=aq (ba hBi hQi);have HB:=aq hBl;clear hN hC hK hBl hQl hBi hQi hsh hbig;by_cases hqc:q=c
    ·have HE:=aq (HV.out.trans (if_pos hqc))
     have hq1:((q:Int) == (c:Int))=true:=by rw [beq_iff_eq];omega
     have hq2:((q:Int) != (c:Int))=false:=by rw [bne_eq_false_iff_eq];omega
     have hq3:(q == c)=true:=by rw [beq_iff_eq];omega
     have hq4:(q != c)=false:=by rw [bne_eq_false_iff_eq];omega
     clear HV hqc;rw [HE.out];rcases Nat.eq_zero_or_pos n with rfl | hn0
     ·have HB0:Hid (B=[]):=List.length_eq_zero_iff.1 HB.out
      have HBN:Hid (∀ (x:Option Addr) (W:World),BytesIn W x B):=fun _ _=>bb HB0.out;go_enter func131,ntmps131;go_wp2_with (first
           | (go_at_call 133;(with_reducible refine HG.out.mono ?_);rintro x w1 ⟨rfl,rfl⟩)
           | (go_at_call 174;(with_reducible refine (HN.out _ _ _ (by first | exact HI.out.2 _ h | simpa using HI.out.2 _ h)).mono ?_);rintro x w2 ⟨rfl,rfl⟩)
           | (go_at_call 123;(with_reducible refine (HC.out _ _ _ (by first | exact HI.out.1 _ h | exact HBN.out _ _)).mono ?_);rintro x w3 ⟨rfl,hb1⟩;replace h:=h.kept hb1)
           | (go_at_call 125;(with_reducible refine (HK.out _ _ _ (by first | exact HI.out.1 _ h | exact HBN.out _ _)).mono ?_);rintro x w4 ⟨v,rfl,hown,hb2⟩))
      go_ret3
      rw [HB0.out] at hown ⊢;exact ⟨_,rfl,eP hown hb1.size,below2 hb1 hb2⟩
     ·have hkn:¬ (k+n=k):=by omega
      have hnn:¬ (n=0):=by omega
      go_enter func131,ntmps131;go_wp2_with (first
           | (go_at_call 133;(with_reducible refine HG.out.mono ?_);rintro x w1 ⟨rfl,rfl⟩)
           | (go_at_call 174;(with_reducible refine (HN.out _ _ _ (by first | exact HI.out.2 _ h | simpa using HI.out.2 _ h)).mono ?_);rintro x w2 ⟨rfl,rfl⟩)
           | (go_at_call 123;(with_reducible refine (HC.out _ _ _ (by first | exact HI.out.1 _ h | exact HBN.out _ _)).mono ?_);rintro x w3 ⟨rfl,hb1⟩;replace h:=h.kept hb1)
           | (go_at_call 125;(with_reducible refine (HK.out _ _ _ (by first | exact HI.out.1 _ h | exact HBN.out _ _)).mono ?_);rintro x w4 ⟨v,rfl,hown,hb2⟩))
      go_ret3
      exact ⟨_,rfl,eP hown hb1.size,below2 hb1 hb2⟩
    ·have HE:=aq (HV.out.trans (if_neg hqc))
     have hq1:((q:Int) == (c:Int))=false:=by rw [beq_eq_false_iff_ne];omega
     have hq2:((q:Int) != (c:Int))=true:=by rw [bne_iff_ne];omega
     have hq3:(q == c)=false:=by rw [beq_eq_false_iff_ne];omega
     have hq4:(q != c)=true:=by rw [bne_iff_ne];omega
     clear HV hqc;rw [HE.out];rcases Nat.eq_zero_or_pos n with rfl | hn0
     ·have HB0:Hid (B=[]):=List.length_eq_zero_iff.1 HB.out
      have HBN:Hid (∀ (x:Option Addr) (W:World),BytesIn W x B):=fun _ _=>bb HB0.out
      exact z40
     ·have hkn:¬ (k+n=k):=by omega
      have hnn:¬ (n=0):=by omega
      exact z40
 ·refine y54 ?_
  intro hne hne2
  have HE:Hid (iK l=([],0,e)):=HV.out.trans (if_neg (by omega))
  exact z57
end Go.Proofs.YthphepeniaemoaaGreat
/- One frame; how many bytes a frame has; the frames at the beginning of bytes. Conditions: at most 2^30 bytes. -/
namespace Go.Proofs.YthphepeniaemoaaGreat
open Go.RowKit
/-- the body of the one frame that bytes are -/
def zl (b:Bytes):Bytes×Int:=if (iK b).2.2=0 then (if (iK b).2.1<b.length then ([],1) else ((iK b).1,0)) else ([],(iK b).2.2)
def LJ (r:Bytes×Int) (w:World) (e:Ending) (w':World):Prop :=
 ∃ v,e=.returned (.tuple #[v,.int .i64 r.2])/\w'.ownsRow w.heap.size 5 1 v r.1.length (aA r.1)/\Below w.heap.size w w'
theorem JW (w w':World) (k:Int) (hb:Below w.heap.size w w'):LJ ([],k) w (.returned (.tuple #[.slice none 0 0,.int .i64 k])) w':=⟨_,rfl,World.ownsRow_nil _ _ _ _,hb⟩
theorem yF (l:Bytes):((iK l).2.2=0/\5<=(iK l).2.1/\(iK l).2.1<=l.length/\(iK l).1.length<=1048576/\(iK l).1.length+5<=(iK l).2.1)\/((iK l).2.2≠0/\(iK l).2.2<=5/\0<=(iK l).2.2/\(iK l).1=[]/\(iK l).2.1=0):=by
 have h:=tJ l;unfold iK;split
 ·split
  ·right;simp
  ·split
   ·right;simp
   ·split
    ·left;simp;omega
    ·right;simp
 ·right;refine ⟨by assumption,?_,?_,rfl,rfl⟩ <;> simp only <;> omega
theorem z111 {p : Prop} (h : p := by
 rw [HE.out]
 go_enter func87, ntmps87
 go_wp2_with (go_at_call 131; (with_reducible refine HG.out.mono ?_); rintro x w1 ⟨v, rfl, hown, hb⟩)
 go_ret2
 exact JW _ _ _ hb) : p := h
theorem Gu (a:Option Addr) (cap:Nat) (l:Bytes) (w:World) (hl:l.length<=1073741824) (hcap:l.length<=cap) (h:BytesIn w a l) :
 Calls prog 87 #[.slice a l.length cap] w (LJ (zl l) w):=by
 have hg:=Gv a cap l w hl hcap h;have hf:=yF l;have HV:Hid (zl l=if (iK l).2.2=0 then (if (iK l).2.1<l.length then ([],1) else ((iK l).1,0)) else ([],(iK l).2.2)):=rfl;obtain ⟨b,n,e,hx⟩:∃ b n e,iK l=(b,n,e):=⟨_,_,_,rfl⟩;rw [hx] at hg hf HV;simp only at hf HV;unfold Rw at hg;simp only at hg;have HG:=aq hg;clear hg hx;rcases hf with ⟨rfl,h5,hn,-,-⟩ | ⟨he,-,-,rfl,rfl⟩
 ·replace HV:=aq (HV.out.trans (if_pos rfl))
  by_cases hlt:n<l.length
  ·have HE:=aq (HV.out.trans (if_pos hlt))
   clear HV
   exact z111
  ·have HE:=aq (HV.out.trans (if_neg hlt))
   clear HV;rw [HE.out];have hd:decide ((n:Int)<(l.length:Int))=false:=aM (by omega);go_enter func87,ntmps87;go_wp2_with (go_at_call 131;(with_reducible refine HG.out.mono ?_);rintro x w1 ⟨v,rfl,hown,hb⟩)
   go_ret2;exact ⟨_,rfl,hown,hb⟩
 ·refine y54 ?_
  intro hne hne2
  have HE:Hid (zl l=([],e)):=HV.out.trans (if_neg he);clear HV he
  exact z111
/-- how many bytes a frame has, of a body of n bytes -/
def GL (n:Nat):Nat:=(aj n).length+n+4
end Go.Proofs.YthphepeniaemoaaGreat
/- The frames at the beginning of bytes. Conditions: at most 2^30 bytes. -/
namespace Go.Proofs.YthphepeniaemoaaGreat
open Go.RowKit
end Go.Proofs.YthphepeniaemoaaGreat
