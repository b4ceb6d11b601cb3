/- Sums of 32 bits: a byte further, by steps of one bit and of four; what a change does to a sum. Conditions: none. -/
import Derived.Laws.BitsAllLaws
import Derived.Test.YthphepeniaemoaaGreatCel
import Derived.Test.YthphepeniaemoaaGreatClone
import Derived.IntWalk
import Derived.Lib.AppendZerosOnto
import Derived.Test.YthphepeniaemoaaGreatDec
set_option linter.unusedSimpArgs false
set_option linter.unusedVariables false
set_option linter.unnecessarySimpa false
set_option maxHeartbeats 16000000
set_option maxRecDepth 100000
open Go.Proofs.Tryz
namespace Go.Proofs.YthphepeniaemoaaGreat
def Gm:Nat:=3988292384
def jW (s:Nat):Nat:=if s % 2=1 then s / 2 ^^^ Gm else s / 2
def step4 (s:Nat):Nat:=jW (jW (jW (jW s)))
def zX (s c:Nat):Nat:=step4 (step4 (s ^^^ c))
def xu:Nat->List UInt8->Nat
 | s,[]=>s
 | s,c :: r=>xu (zX s c.toNat) r
def kC (l:List UInt8):Nat:=4294967295 - xu 4294967295 l
theorem PV (a b:Nat):(a ^^^ b) / 2=a / 2 ^^^ b / 2:=by
 have:=Nat.shiftRight_xor_distrib (a:=a) (b:=b) (i:=1);simpa [Nat.shiftRight_eq_div_pow] using this
theorem Sv (a b:Nat):(a ^^^ b) % 2=1↔¬ (a % 2=1↔b % 2=1):=by
 have h:=Nat.testBit_xor a b 0;simp only [Nat.testBit_zero] at h;by_cases ha:a % 2=1 <;> by_cases hb:b % 2=1 <;> simp [ha,hb] at h ⊢ <;> omega
theorem Jb (a b:Nat):jW (a ^^^ b)=jW a ^^^ jW b:=by
 unfold jW;have h:=Sv a b;have h2:=PV a b;by_cases ha:a % 2=1 <;> by_cases hb:b % 2=1
 ·rw [if_neg (by rw [h];simp [ha,hb]),if_pos ha,if_pos hb,h2,Nat.xor_assoc,Nat.xor_comm (b / 2),<- Nat.xor_assoc Gm,Nat.xor_self,Nat.zero_xor]
 ·rw [if_pos (by rw [h];simp [ha,hb]),if_pos ha,if_neg hb,h2,Nat.xor_assoc,Nat.xor_comm (b / 2),Nat.xor_assoc]
 ·rw [if_pos (by rw [h];simp [ha,hb]),if_neg ha,if_pos hb,h2,Nat.xor_assoc]
 ·rw [if_neg (by rw [h];simp [ha,hb]),if_neg ha,if_neg hb,h2]
theorem qH {s:Nat} (h:s<4294967296):jW s<4294967296:=by
 unfold jW Gm;split
 ·exact Nat.xor_lt_two_pow (n:=32) (by omega) (by omega)
 ·omega
theorem NK (a b:Nat):step4 (a ^^^ b)=step4 a ^^^ step4 b:=by unfold step4;simp only [Jb]
theorem GU {s:Nat} (h:s<4294967296):step4 s<4294967296:=qH (qH (qH (qH h)))
theorem nD (h:Nat):jW (2 * h)=h:=by unfold jW;rw [if_neg (by omega)];omega
theorem JR (h:Nat):step4 (16 * h)=h:=by
 unfold step4;rw [show 16 * h=2 * (2 * (2 * (2 * h))) by omega,nD,nD,nD,nD]
/-- what four steps make of the lowest four bits -/
def qG:List Nat:=[0x00000000,0x1db71064,0x3b6e20c8,0x26d930ac,0x76dc4190,0x6b6b51f4,0x4db26158,0x5005713c,0xedb88320,0xf00f9344,0xd6d6a3e8,0xcb61b38c,0x9b64c2b0,0x86d3d2d4,0xa00ae278,0xbdbdf21c]
theorem NL:∀ k:Fin 16,step4 k.val=qG.getD k.val 0:=by decide +kernel
theorem SH (x:Nat):x=16 * (x / 16) ^^^ (x % 16):=by
 have h:16 * (x / 16) ||| x % 16=16 * (x / 16) ^^^ (x % 16):=by
  apply Nat.eq_of_testBit_eq;intro i;simp only [Nat.testBit_or,Nat.testBit_xor];rw [show 16 * (x / 16)=2 ^ 4 * (x / 16) from rfl,show x % 16=x % 2 ^ 4 from rfl,Nat.testBit_two_pow_mul,Nat.testBit_mod_two_pow];by_cases hi:i<4
  ·simp [show ¬ i≥4 by omega]
  ·simp [hi]
 have h2:16 * (x / 16) ||| x % 16=16 * (x / 16)+x % 16:=by
  have:=Nat.two_pow_add_eq_or_of_lt (i:=4) (b:=x % 16) (by omega) (x / 16);simpa using this.symm
 rw [<- h,h2];omega
theorem Ef (x:Nat):step4 x=x / 16 ^^^ qG.getD (x % 16) 0:=by
 have h:=SH x;have h2:=NK (16 * (x / 16)) (x % 16);rw [<- h,JR,NL ⟨x % 16,by omega⟩] at h2;exact h2
end Go.Proofs.YthphepeniaemoaaGreat
/- The sum of bytes, by a table of sixteen numbers. Conditions: at most 2^30 bytes. -/
namespace Go.Proofs.YthphepeniaemoaaGreat
open Go.RowKit
def sS:Array Value:=#[.int .u32 0,.int .u32 498536548,.int .u32 997073096,.int .u32 651767980,.int .u32 1994146192,.int .u32 1802195444,.int .u32 1303535960,.int .u32 1342533948,.int .u32 3988292384,.int .u32 4027552580,.int .u32 3604390888,.int .u32 3412177804,.int .u32 2607071920,.int .u32 2262029012,.int .u32 2685067896,.int .u32 3183342108]
theorem JP (k:Nat) (h:k<16):sS[k]?=some (.int .u32 ((qG.getD k 0:Nat):Int)):=by
 match k,h with
 | 0,_=>rfl
 | 1,_=>rfl
 | 2,_=>rfl
 | 3,_=>rfl
 | 4,_=>rfl
 | 5,_=>rfl
 | 6,_=>rfl
 | 7,_=>rfl
 | 8,_=>rfl
 | 9,_=>rfl
 | 10,_=>rfl
 | 11,_=>rfl
 | 12,_=>rfl
 | 13,_=>rfl
 | 14,_=>rfl
 | 15,_=>rfl
 | k+16,h=>exact absurd h (by omega)
theorem EU:∀ k:Fin 16,qG.getD k.val 0<4294967296:=by decide
theorem table_any (w:World):Calls prog 204 #[] w fun e w'=>e=.returned (.agg sS)/\Below w.heap.size w w':=by
 go_enter func204,ntmps204;go_wp2_with (first
  | (refine Great.wpList_buildTo rfl 278 _ rfl _ rfl sS (by kernel_rfl) ?_)
  | (refine bK 278 _ _ _ sS rfl rfl (by kernel_rfl) rfl (by kernel_rfl) ?_))
 refine dX _ _ 278 w.heap.size sS _ rfl rfl (heap_alloc_last w _) underlying278 rfl (by kernel_rfl) rfl ⟨rfl,(bb _ _).alloc (aq _) _⟩
theorem FB (w:World) (b:Nat) (cs cs':Array Value) (t:TypeId) (f:Nat×Nat) (h:w.heap[b]?=some (.cells cs' t f)):(w.setRow b cs).heap[b]?=some (.cells cs t f):=by
 simp [World.setRow,Array.getElem?_modify,h]
theorem Oz (x:Nat) (h:x<4294967296):4294967295 ^^^ x=4294967295 - x:=by
 apply Nat.eq_of_testBit_eq;intro i;have h1:=Nat.testBit_two_pow_sub_succ (n:=32) (x:=x) h i;have h2:=Nat.testBit_two_pow_sub_one 32 i;rw [show 2 ^ 32 - (x+1)=4294967295 - x by omega] at h1;rw [show 2 ^ 32 - 1=4294967295 from rfl] at h2;rw [Nat.testBit_xor,h1,h2];by_cases hi:i<32
 ·simp [hi]
 ·have h3:x.testBit i=false:=Nat.testBit_lt_two_pow (Nat.lt_of_lt_of_le (show x<2 ^ 32 from h) (Nat.pow_le_pow_right (by omega) (by omega)))
  simp [hi,h3]
theorem TY (x:Nat) (h:x<4294967296):bits .xor .u32 IntKind.u32.max (x:Int)=((4294967295 - x:Nat):Int):=by
 have h2:=u32_xor_nat 4294967295 x (by omega) h;rw [Oz x h] at h2;exact h2
theorem Pj (s:Nat) (c:UInt8) (r:Bytes):xu s (c :: r)=xu (zX s c.toNat) r:=rfl
theorem z138 {p : Prop} (h : p := by
 rw [show ((15 : Nat) : Int) = 15 from rfl] at this
 rw [this, show (15 : Nat) = 2 ^ 4 - 1 from rfl, Nat.and_two_pow_sub_one_eq_mod]) : p := h
theorem TW (s:Nat) (a:Option Addr) (cap:Nat) (l:Bytes) (w:World) (hs:s<4294967296) (hl:l.length<=1073741824) (h:BytesIn w a l) :
 Calls prog 166 #[.agg #[.int .u32 s],.slice a l.length cap] w fun e w'=>e=.returned (.agg #[.int .u32 ((4294967295 - xu (4294967295 - s) l:Nat):Int)])/\Below w.heap.size w w':=by
 have HT:=aa (fun (W:World)=>table_any W);go_enter func166,ntmps166;go_upto_region 2 with fail
 refine aN (fun W hW=>?_);have hb0:Below w.heap.size w W:=by rw [hW.out];go_grown
 have hin:=h.kept hb0;have hZ:W.heap[w.heap.size+1]?=some (.cells #[.int .u32 0] 239 (0,0)):=by
  rw [hW.out];have:=heap_alloc_last (w.alloc (Obj.cells #[.int .u32 s] 239)) (.cells #[.int .u32 0] 239);simpa only [World.size_alloc] using this
 have hz:w.heap.size+1<W.heap.size:=by rw [hW.out];simp
 clear hW h;go_upto_region 3 with (first
  | (go_at_call 204;(with_reducible refine (HT.out _).mono ?_);rintro v w1 ⟨rfl,hb⟩)
  | (refine bK 278 _ _ _ sS rfl rfl (by kernel_rfl) rfl (by kernel_rfl) ?_))
 refine aN (fun W2 hW2=>?_);have hb1:Below w1.heap.size w1 W2:=by rw [hW2.out];go_grown
 have hC:∀ k,k<16->W2.cell? ⟨w1.heap.size,k,none⟩=some (.int .u32 ((qG.getD k 0:Nat):Int)):=by
  intro k hk;rw [hW2.out,World.cell?_alloc_new];exact JP k hk
 replace hZ:=(hb1.block _ (Nat.lt_of_lt_of_le hz hb.size)).trans ((hb.block _ hz).trans hZ);replace hin:=(hin.kept hb).kept hb1;replace hb:=below2 (below2 hb0 hb) hb1;have hn0:w.heap.size+1<W2.heap.size:=lt_of_block hZ;clear hb0 hb1 hz hW2 HT;generalize w1.heap.size=T at *;go_wp2;go_loop [5,15] (fun x i=>∃ k m:Nat,k<=l.length/\m<4294967296/\x=.int .u32 m/\i=.int .i64 k/\xu (4294967295 - s) l=xu m (l.drop k)) (fun _ i=>l.length - (intOf i).toNat)
 case atStart=>exact ⟨0,4294967295 - s,Nat.zero_le _,by omega,by rw [TY s hs],rfl,rfl⟩
 case round =>
  obtain ⟨k,m,hk,hm,rfl,rfl,hpre⟩:=hrel;have HP:=aa hpre;clear hpre;by_cases hlt:k<l.length
  ·rcases hin with h0 | ⟨A,off,rfl,hB⟩
   ·rw [h0] at hlt;simp at hlt
   have hc:=hB.cell hlt;have HS:Hid (xu (4294967295 - s) l=xu (zX m l[k].toNat) (l.drop (k+1))) :=
        HP.out.trans ((congrArg (xu m) (List.drop_eq_getElem_cons hlt)).trans (Pj _ _ _))
   clear HP;obtain ⟨c,hcc⟩:∃ c,c=l[k]:=⟨_,rfl⟩;rw [<- hcc] at hc HS;clear hcc;have hcl:=c.toNat_lt;have hx1:bits .xor .u32 (m:Int) (c.toNat:Int)=((m ^^^ c.toNat:Nat):Int):=u32_xor_nat _ _ hm (by omega);have hq0:m ^^^ c.toNat<4294967296:=Nat.xor_lt_two_pow (n:=32) hm (by omega);have HQ:Hid (zX m c.toNat=step4 (step4 (m ^^^ c.toNat))):=rfl;generalize m ^^^ c.toNat=q at hx1 hq0 HQ;have hr0:=GU hq0;have hq1:bits .xor .u32 ((q:Int) / 16) ((qG.getD (q % 16) 0:Nat):Int)=((step4 q:Nat):Int):=by
        rw [show ((q:Int) / 16)=((q / 16:Nat):Int) by omega,u32_xor_nat _ _ (by omega) (EU ⟨q % 16,by omega⟩),<- Ef]
   have hr1:bits .xor .u32 (((step4 q:Nat):Int) / 16) ((qG.getD (step4 q % 16) 0:Nat):Int)=((step4 (step4 q):Nat):Int):=by
        rw [show (((step4 q:Nat):Int) / 16)=((step4 q / 16:Nat):Int) by omega,u32_xor_nat _ _ (by omega) (EU ⟨step4 q % 16,by omega⟩),<- Ef]
   have hs0:=GU hr0;generalize step4 q=r at *;generalize step4 r=t at *;have ha1:bits .and .u32 (q:Int) 15=((q % 16:Nat):Int):=by
        have:=u32_and_nat q 15 hq0 (by decide)
        exact z138
   have ha2:bits .and .u32 (r:Int) 15=((r % 16:Nat):Int):=by
        have:=u32_and_nat r 15 hr0 (by decide)
        exact z138
   have hc1:=hC (q % 16) (by omega);have hc2:=hC (r % 16) (by omega);generalize qG.getD (q % 16) 0=u1 at hq1 hc1;generalize qG.getD (r % 16) 0=u2 at hr1 hc2;have hne:((k:Int) == (l.length:Int))=false:=by rw [beq_eq_false_iff_ne];omega
   have hw1:q % 16<16:=by omega
   have hw2:r % 16<16:=by omega
   rw [HQ.out] at HS;clear hC;go_wp2;go_round
   case rel=>exact ⟨k+1,t,by omega,hs0,rfl,by go_num,HS.out⟩
   case measure => exact z69
  ·have HE:Hid (xu (4294967295 - s) l=m):=HP.out.trans (congrArg (xu m) (List.drop_eq_nil_of_le (by omega)))
   have hm2:=TY m hm;clear hC;go_wp2_with (refine wpList_store_row rfl 239 _ _ rfl (w.heap.size+1) #[.int .u32 ((4294967295 - m:Nat):Int)] rfl rfl 239 #[.int .u32 0] hZ (by kernel_rfl) rfl (by kernel_rfl) ?_)
   refine dX _ _ 239 (w.heap.size+1) #[.int .u32 ((4294967295 - m:Nat):Int)] _ rfl rfl (FB _ _ _ _ _ _ hZ) underlying239 rfl (by kernel_rfl) rfl ?_;rw [HE.out];exact ⟨rfl,below_setRow hb (by omega) _⟩
theorem Ls (w:World):Calls prog 165 #[] w fun e w'=>e=.returned (.agg #[.int .u32 0])/\Below w.heap.size w w':=by
 go_enter func165,ntmps165;go_wp2_with (refine bK 239 _ _ _ #[.int .u32 0] rfl rfl (by kernel_rfl) rfl (by kernel_rfl) ?_)
 refine dX 0 _ 239 w.heap.size #[.int .u32 0] _ rfl rfl (heap_alloc_last w _) underlying239 rfl (by kernel_rfl) rfl ⟨rfl,(bb _ _).alloc (aq _) _⟩
theorem Fp (s:Nat) (w:World):Calls prog 167 #[.agg #[.int .u32 s]] w fun e w'=>e=.returned (.int .u32 s)/\Below w.heap.size w w':=by
 go_enter func167,ntmps167;go_wp2;go_ret;exact ⟨rfl,(bb _ _).alloc (aq _) _⟩
theorem DC (a:Option Addr) (cap:Nat) (l:Bytes) (w:World) (hl:l.length<=1073741824) (h:BytesIn w a l) :
 Calls prog 123 #[.slice a l.length cap] w fun e w'=>e=.returned (.int .u32 ((kC l:Nat):Int))/\Below w.heap.size w w':=by
 have HN:=aa (fun (W:World)=>Ls W);have HA0:∀ (W:World),BytesIn W a l->Calls prog 166 #[.agg #[.int .u32 0],.slice a l.length cap] W fun e w'=>e=.returned (.agg #[.int .u32 ((4294967295 - xu 4294967295 l:Nat):Int)])/\Below W.heap.size W w':=fun W h=>TW 0 a cap l W (by omega) hl h;have HA:=aa HA0;clear HA0;have HS:=aa (fun (n:Nat) (W:World)=>Fp n W);have HE:Hid (kC l=4294967295 - xu 4294967295 l):=rfl;go_enter func123,ntmps123;go_wp2_with (first
  | (go_at_call 165;(with_reducible refine (HN.out _).mono ?_);rintro v w1 ⟨rfl,hb⟩;replace h:=h.kept hb)
  | (go_at_call 166;(with_reducible refine (HA.out _ h).mono ?_);rintro v w2 ⟨rfl,hb2⟩;replace hb:=below2 hb hb2)
  | (go_at_call 167;(with_reducible refine (HS.out _ _).mono ?_);rintro v w3 ⟨rfl,hb3⟩;replace hb:=below2 hb hb3))
 go_ret;rw [HE.out];exact ⟨rfl,hb⟩
end Go.Proofs.YthphepeniaemoaaGreat
/- Bytes in frames: a number's four bytes, slices one behind the other, a body's frame. Conditions: at most 2^28 bytes. -/
namespace Go.Proofs.YthphepeniaemoaaGreat
open Go.RowKit
/-- a number's four bytes, the lowest first -/
def le4 (n:Nat):Bytes:=[UInt8.ofNat (n % 256),UInt8.ofNat (n / 256 % 256),UInt8.ofNat (n / 65536 % 256),UInt8.ofNat (n / 16777216 % 256)]
/-- a body's frame -/
def dJ (body:Bytes):Bytes:=aU body.length++body++le4 (kC body)
theorem J3 (n:Nat) (w:World) (hn:n<4294967296):Calls prog 164 #[.int .u64 n,.int .i64 32] w fun e w'=>e=.returned (.bool true)/\w=w':=by
 have h0:((n:Int) / 4294967296 == 0)=true:=by rw [beq_iff_eq];omega
 go_enter func164,ntmps164;go_wp2;go_ret;exact ⟨rfl,rfl⟩
def RJ (n:Nat) (w:World) (e:Ending) (w':World):Prop :=
 ∃ v,e=.returned (.tuple #[v,.int .i64 0])/\w'.ownsRow w.heap.size 5 1 v 4 (aY (le4 n))/\Below w.heap.size w w'
def jO (a b c d:Int):Array Value:=#[.int .u8 a,.int .u8 b,.int .u8 c,.int .u8 d]
theorem PZ (n:Nat):(jO ((n % 256:Nat):Int) ((n / 256 % 256:Nat):Int) ((n / 65536 % 256:Nat):Int) ((n / 16777216 % 256:Nat):Int)).toList=aY (le4 n):=by
 have h:∀ m:Nat,(UInt8.ofNat (m % 256)).toNat=m % 256:=fun m=>by rw [UInt8.toNat_ofNat'];omega
 simp [jO,aY,le4,h]
theorem NS (w:World) (B:Nat) (a b c d:Int) (t:TypeId) (f:Nat×Nat) (h:w.heap[B]?=some (.cells (jO a b c d) t f)) :
 (∀ x,(w.setCell ⟨B,0,none⟩ (.int .u8 x)).heap[B]?=some (.cells (jO x b c d) t f))/\(∀ x,(w.setCell ⟨B,1,none⟩ (.int .u8 x)).heap[B]?=some (.cells (jO a x c d) t f)) /\
 (∀ x,(w.setCell ⟨B,2,none⟩ (.int .u8 x)).heap[B]?=some (.cells (jO a b x d) t f))/\(∀ x,(w.setCell ⟨B,3,none⟩ (.int .u8 x)).heap[B]?=some (.cells (jO a b c x) t f)):=by
 refine ⟨fun x=>?_,fun x=>?_,fun x=>?_,fun x=>?_⟩ <;> simp [World.setCell,Array.getElem?_modify,h,jO]
theorem LH (w:World) (B:Nat) (a b c d:Int) (t:TypeId) (h:w.heap[B]?=some (.cells (jO a b c d) t (0,0))) :
 w.cell? ⟨B,0,none⟩=some (.int .u8 a)/\w.cell? ⟨B,1,none⟩=some (.int .u8 b)/\w.cell? ⟨B,2,none⟩=some (.int .u8 c)/\w.cell? ⟨B,3,none⟩=some (.int .u8 d)/\(∀ o,w.frozen? ⟨B,o,none⟩=false):=by
 simp [World.cell?,World.frozen?,h,jO]
theorem kZ {B:Nat} {W w:World} (h:Below B W w) {g o:Nat} (hg:B<=g) (v:Value):Below B W (w.setCell ⟨g,o,none⟩ v) :=
 h.trans ⟨rfl,rfl,rfl,by simp [World.setCell],fun k hk=>by simp [World.setCell,Array.getElem?_modify];omega⟩
theorem y76 {p q : Prop} (k : q) (h : PLift q -> p := by
 intro kk
 obtain ⟨q0, q1, q2, q3, qf⟩ := LH _ _ _ _ _ _ _ hB1
 have HS := aa (NS _ _ _ _ _ _ _ _ hB1)
 revert q0 q1 q2 q3 qf HS
 exact kk.down) : p := h ⟨k⟩
theorem MI (n:Nat) (w:World) (hn:n<4294967296):Calls prog 122 #[.int .u64 n,.int .i64 4] w (RJ n w):=by
 obtain ⟨i0,hi,hz0,hz1,hz2⟩:=info_parts Tryz.infoByte;have HR:=aa (fun (W:World)=>J3 n W hn);have hmk:∀ W:World,(Instr.makeSlice 54 (.int .i64 4) (.int .i64 4)).run prog W=.ok (.slice (some ⟨W.heap.size,0,none⟩) 4 4) (W.alloc (.cells (jO 0 0 0 0) 5)):=fun W=>by
  have h:=run_makeSlice W 54 5 i0 (.int .u8 0) underlying54 hi hz0 .i64 .i64 4 4 (by omega) (by omega) (by rw [hz1];decide) (by rw [hz2];decide) (by omega);rw [hz1,show madeCells (Value.int IntKind.u8 0).cells (Int.toNat 4 * 1)=jO 0 0 0 0 by kernel_rfl] at h;exact h
 have hv:=aa (PZ n);have hb0:Below w.heap.size w (w.alloc (.cells (jO 0 0 0 0) 5)):=(bb _ _).alloc (aq _) _;have hB0:(w.alloc (.cells (jO 0 0 0 0) 5)).heap[w.heap.size]?=some (.cells (jO 0 0 0 0) 5 (0,0)):=heap_alloc_last w _;go_enter func122,ntmps122;go_wp2_with (go_at_call 164;(with_reducible refine (HR.out _).mono ?_);rintro v w1 ⟨rfl,rfl⟩)
 generalize w.alloc (.cells (jO 0 0 0 0) 5)=W at hb0 hB0 ⊢;go_loopw [24] (fun i wr=>Below w.heap.size w wr/\∃ k:Nat,i=.int .i64 k/\k<=4/\wr.heap[w.heap.size]?=some (.cells (jO (if 0<k then ((n % 256:Nat):Int) else 0) (if 1<k then ((n / 256 % 256:Nat):Int) else 0) (if 2<k then ((n / 65536 % 256:Nat):Int) else 0) (if 3<k then ((n / 16777216 % 256:Nat):Int) else 0)) 5 (0,0))) (fun i _=>4 - (intOf i).toNat)
 case atStart=>exact ⟨hb0,0,rfl,by omega,hB0⟩
 case round =>
  obtain ⟨hb,k,rfl,hk,hB⟩:=hrel;have hk5:k=0\/k=1\/k=2\/k=3\/k=4:=by omega
  clear hb0 hB0 hk;rcases hk5 with rfl | rfl | rfl | rfl | rfl
  ·have hB1:wr.heap[w.heap.size]?=some (.cells (jO 0 0 0 0) 5 (0,0)):=hB
   refine y76 ?_
   intro q0 q1 q2 q3 qf HS
   have qf0:=qf 0;have hx:Hid ((n:Int)  % 256=((n % 256:Nat):Int)):=by unfold Hid;omega
   clear qf hB hB1;go_wp2;go_roundw
   case rel=>exact ⟨kZ hb (aq _) _,1,rfl,by omega,by rw [hx.out];exact HS.out.1 _⟩
   case measure=>simp [intOf]
  ·have hB1:wr.heap[w.heap.size]?=some (.cells (jO ((n % 256:Nat):Int) 0 0 0) 5 (0,0)):=hB
   refine y76 ?_
   intro q0 q1 q2 q3 qf HS
   have qf0:=qf 1;have hx:Hid ((n:Int) / 256  % 256=((n / 256 % 256:Nat):Int)):=by unfold Hid;omega
   clear qf hB hB1;go_wp2;go_roundw
   case rel=>exact ⟨kZ hb (aq _) _,2,rfl,by omega,by rw [hx.out];exact HS.out.2.1 _⟩
   case measure=>simp [intOf]
  ·have hB1:wr.heap[w.heap.size]?=some (.cells (jO ((n % 256:Nat):Int) ((n / 256 % 256:Nat):Int) 0 0) 5 (0,0)):=hB
   refine y76 ?_
   intro q0 q1 q2 q3 qf HS
   have qf0:=qf 2;have hx:Hid ((n:Int) / 65536  % 256=((n / 65536 % 256:Nat):Int)):=by unfold Hid;omega
   clear qf hB hB1;go_wp2;go_roundw
   case rel=>exact ⟨kZ hb (aq _) _,3,rfl,by omega,by rw [hx.out];exact HS.out.2.2.1 _⟩
   case measure=>simp [intOf]
  ·have hB1:wr.heap[w.heap.size]?=some (.cells (jO ((n % 256:Nat):Int) ((n / 256 % 256:Nat):Int) ((n / 65536 % 256:Nat):Int) 0) 5 (0,0)):=hB
   refine y76 ?_
   intro q0 q1 q2 q3 qf HS
   have qf0:=qf 3;have hx:Hid ((n:Int) / 16777216  = ((n / 16777216 % 256:Nat):Int)):=by unfold Hid;omega
   clear qf hB hB1;go_wp2;go_roundw
   case rel=>exact ⟨kZ hb (aq _) _,4,rfl,by omega,by rw [hx.out];exact HS.out.2.2.2 _⟩
   case measure=>simp [intOf]
  ·have hB1:wr.heap[w.heap.size]?=some (.cells (jO ((n % 256:Nat):Int) ((n / 256 % 256:Nat):Int) ((n / 65536 % 256:Nat):Int) ((n / 16777216 % 256:Nat):Int)) 5 (0,0)):=hB
   have HB:=aa hB1;clear hB hB1;go_wp2;go_ret2;exact ⟨_,rfl,⟨by rw [eX];rfl,.inr ⟨w.heap.size,4,_,rfl,aq _,HB.out,aq _,by decide,rfl,hv.out⟩⟩,hb⟩
theorem yN (n:Nat):(Builtin.zeroCells #[Value.int .u8 0] n).size=n:=by simp [Builtin.zeroCells]
theorem Sl (n:Nat) (w:World) (h0:0<n) (hn:n<=1073741824):Calls prog 168 #[.slice none 0 0,.int .i64 n] w fun e w' =>
 ∃ v,e=.returned v/\w'.ownsRow w.heap.size 5 1 v 0 []/\Below w.heap.size w w':=by
 obtain ⟨i0,hi,hz0,hz1,hz2⟩:=info_parts Tryz.infoByte;have hrun:∀ (W:World) (ty:TypeId),(Builtin.append_ #[54,3] ty #[.slice none 0 0,.int .i64 n]).run prog W =
  .ok (.slice (some ⟨W.heap.size,0,none⟩) n (grownCap W n 0 5)) (W.drew.alloc (.cells (Builtin.zeroCells (Value.int .u8 0).cells n++Builtin.zeroCells (Value.int .u8 0).cells (grownCap W n 0 5 - n)) 5)):=fun W ty=>by
  have h:=Lib.run_append_grow_zeros (P:=prog) W 54 3 ty 5 i0 (.int .u8 0) .i64 .i64 underlying54 underlying3 hi hz0 none 0 0 [] (run_firstCells_none W.drew i0.size 0 0 0) n h0 (by rw [hz1];decide) (by omega) (by omega) (by rw [hz2];omega)
   (by rw [hz2];exact growslice_fits (by omega) (by omega))
  rw [av] at h;simpa using h
 have hG:=fun W:World=>grownCap_ge W n 0 5;have hG2:=fun W:World=>grownCap_le_maxLen W n 0 5 (by unfold maxLen;omega);have HG:=aa (a7 hG hG2);clear hG hG2;go_enter func168,ntmps168;go_wp2_with (at_builtin;refine Lib.wpList_append_run _ rfl _ _ _ _ rfl _ _ rfl rfl _ _ (hrun _ _) ?_)
 go_ret;refine ⟨_,rfl,World.ownsRow_made w.drew _ _ (aq _) (HG.out.2 w) ?_,((bb w.heap.size w).drew).alloc (aq _) _⟩;have:=HG.out.1 w;rw [Array.size_append,yN,yN];omega
theorem JX (n:Nat):aU n≠[]:=by
 rw [aU];split <;> simp
/-- from block A on lie these slices of bytes -/
def SlicesAt (w:World) (A:Nat) (ls:List (Option Addr×Nat×Bytes)):Prop :=
 ∀ j (h:j<ls.length),w.cell? ⟨A,j,none⟩=some (.slice ls[j].1 ls[j].2.2.length ls[j].2.1)/\BytesIn w ls[j].1 ls[j].2.2
def iq (ls:List (Option Addr×Nat×Bytes)):Bytes:=ls.flatMap fun x=>x.2.2
theorem SlicesAt.kept {w w':World} {A:Nat} {ls:List (Option Addr×Nat×Bytes)} (h:SlicesAt w A ls) (hb:Below w.heap.size w w'):SlicesAt w' A ls:=fun j hj=>⟨Proofs.YthphepeniaemoaaGreat.kept hb (h j hj).1,(h j hj).2.kept hb⟩
theorem BP (ls:List (Option Addr×Nat×Bytes)) (k:Nat) (h:k<ls.length):iq (ls.take (k+1))=iq (ls.take k)++ls[k].2.2:=by
 unfold iq;rw [List.take_succ_eq_append_getElem h,List.flatMap_append];simp
theorem BQ (ls:List (Option Addr×Nat×Bytes)) (k:Nat):(iq (ls.take k)).length<=(iq ls).length:=by
 have:iq ls=iq (ls.take k)++iq (ls.drop k):=by unfold iq;rw [<- List.flatMap_append,List.take_append_drop]
 rw [this];simp
theorem MH (A cap:Nat) (ls:List (Option Addr×Nat×Bytes)) (w:World) (hne:∀ x∈ls,x.2.2≠[]) (hl:(iq ls).length<=1073741824) (h0:0<(iq ls).length) (hls:ls.length<=1073741824) (h:SlicesAt w A ls) :
 Calls prog 124 #[.slice (some ⟨A,0,none⟩) ls.length cap] w (mi (iq ls) w):=by
 obtain ⟨i0,hi,hz0,hz1,hz2⟩:=info_parts Tryz.infoByte;have HG:=aa (fun (W:World)=>Sl (iq ls).length W h0 hl);have HA:=aa h;go_enter func124,ntmps124;go_wp2;go_loop [3,11] (fun s i=>∃ k:Nat,k<=ls.length/\i=.int .i64 k/\s=.int .i64 ((iq (ls.take k)).length:Nat)) (fun _ i=>ls.length - (intOf i).toNat)
 case atStart=>exact ⟨0,Nat.zero_le _,rfl,rfl⟩
 case round =>
  obtain ⟨k,hk,rfl,rfl⟩:=hrel;by_cases hlt:k<ls.length
  ·have hc:=(h k hlt).1
   have hs:=congrArg List.length (BP ls k hlt);rw [ar] at hs;have hle:=BQ ls k;have hle2:=BQ ls (k+1);rw [hs] at hle2;have HS:=aa hs;clear hs h;generalize ls[k]=x at *;generalize (iq (ls.take k)).length=n at *;have hneg:decide (((n:Int)+(x.2.2.length:Int))<0)=false:=aM (by omega);go_wp2;go_round
   case rel=>exact ⟨k+1,by omega,by go_num,by rw [HS.out];go_num⟩
   case measure => exact z69
  ·have hk2:Hid ((iq (ls.take k)).length=(iq ls).length):=by unfold Hid;rw [List.take_of_length_le (by omega)]
   rw [hk2.out];clear hk2;obtain ⟨n,hn⟩:∃ n,n=(iq ls).length:=⟨_,rfl⟩;rw [<- hn] at HG hl h0 ⊢;have HN:=aa hn;clear hn h;go_wp2_with (go_at_call 168;(with_reducible refine (HG.out _).mono ?_);rintro v w1 ⟨v,rfl,hown,hbt⟩)
   go_loopw [6,27] (fun out i wr=>Below w.heap.size w wr/\∃ k:Nat,k<=ls.length/\i=.int .i64 k/\wr.ownsRow w.heap.size 5 1 out (iq (ls.take k)).length (aY (iq (ls.take k)))) (fun _ i _=>ls.length - (intOf i).toNat)
   case atStart=>exact ⟨hbt,0,Nat.zero_le _,rfl,hown⟩
   case round =>
        clear hbt hown;obtain ⟨hbt,k,hk,rfl,hown⟩:=hrel;have hz:=hbt.size;have hA:=HA.out.kept (w':=wr) hbt;by_cases hlt:k<ls.length
        ·have hx:=hne _ (List.getElem_mem hlt)
         have hc:=(hA k hlt).1;have hin:=(hA k hlt).2;have hs:=BP ls k hlt;have hle2:=BQ ls (k+1);rw [hs,ar,<- HN.out] at hle2;have HS:=aa hs;clear hs hA;generalize ls[k]=x at *;obtain ⟨a,cap2,m⟩:=x;simp only at hx hc hin HS hle2;rcases hin with h9 | ⟨A',off,rfl,hb'⟩
         ·exact absurd h9 hx
         have hnews:=hb'.news;clear hx hb' hne HA;generalize iq (ls.take k)=d at *;go_wp2_with (at_builtin;refine wpList_append_own _ rfl _ _ 54 rfl w.heap.size 5 i0 (.int .u8 0) 1 1 underlying54 hi hz0 hz1 hz2 rfl (by decide) _ _ _ rfl hown ⟨A',off,none⟩ _ _ (aY m) rfl (by rw [eX];simp) hnews (xy _) (by unfold maxLen;omega) (by omega) (by omega) ?_;intro v2 w2 hown2 hgrow _;have hown3:w2.ownsRow w.heap.size 5 1 v2 (d++m).length (aY (d++m)):=(by rw [gu,ar];exact hown2);have KY:=hbt.grown hgrow (by omega) (fun k hk=>(hown.lt k hk).1);have hz3:=Nat.le_trans hz hgrow.size;clear hown2 hgrow;replace hown:=hown3;replace hbt:=KY;replace hz:=hz3;clear hown3 KY hz3)
         go_roundw
         case rel=>exact ⟨hbt,k+1,by omega,by go_num,by rw [HS.out];exact hown⟩
         case measure => exact z69
        ·have hk2:Hid (iq (ls.take k)=iq ls):=by unfold Hid;rw [List.take_of_length_le (by omega)]
         rw [hk2.out] at hown;clear hk2 hA hne HA;go_wp2;go_ret;exact ⟨_,rfl,hown,hbt⟩
def NQ (x:Option Addr×Nat×Bytes):Value:=.slice x.1 x.2.2.length x.2.1
theorem GY (W:World) (t:TypeId) (x y z:Option Addr×Nat×Bytes) (hx:BytesIn W x.1 x.2.2) (hy:BytesIn W y.1 y.2.2) (hz:BytesIn W z.1 z.2.2) :
 SlicesAt (W.alloc (.cells #[NQ x,NQ y,NQ z] t)) W.heap.size [x,y,z]:=by
 have hb:Below W.heap.size W (W.alloc (.cells #[NQ x,NQ y,NQ z] t)):=(bb _ _).alloc (aq _) _;intro j hj;match j,hj with
 | 0,_=>exact ⟨by rw [World.cell?_alloc_new];rfl,hx.kept hb⟩
 | 1,_=>exact ⟨by rw [World.cell?_alloc_new];rfl,hy.kept hb⟩
 | 2,_=>exact ⟨by rw [World.cell?_alloc_new];rfl,hz.kept hb⟩
/-- what hands back bytes in memory of its own, and no error -/
def Ny (l:Bytes) (w:World) (e:Ending) (w':World):Prop :=
 ∃ v,e=.returned (.tuple #[v,.int .i64 0])/\w'.ownsRow w.heap.size 5 1 v l.length (aY l)/\Below w.heap.size w w'
theorem tY (l:Bytes):kC l<4294967296:=by unfold kC;omega
theorem Gy (a a2:Option Addr) (cap cap2:Nat) (l body:Bytes) (w:World) (hl:l.length<=268435456) (hb:body.length<=1048576) (hne:body≠[]) (h1:BytesIn w a l) (h2:BytesIn w a2 body) :
 Calls prog 67 #[.slice a l.length cap,.slice a2 body.length cap2] w (Ny (l++dJ body) w):=by
 have hS:=aa (fun (W:World) (h:BytesIn W a2 body)=>DC a2 cap2 body W (by omega) h);have hq:=fun (W:World)=>MI (kC body) W (tY body);have hp:=fun (W:World) (h:BytesIn W a l)=>Aa a cap l body.length W (by omega) (by omega) h;have hl2:=aW body.length (by omega);have hs2:=List.length_pos_iff.2 (JX body.length);have hwr:IntKind.u64.wrap ((kC body:Nat):Int)=((kC body:Nat):Int):=IntWalk.u64_in _ (by have:=tY body;omega);obtain ⟨d,hd⟩:∃ d,d=l++aU body.length:=⟨_,rfl⟩;have hdl:d.length=l.length+(aU body.length).length:=by rw [hd,ar]
 obtain ⟨q,hq4⟩:∃ q,q=le4 (kC body):=⟨_,rfl⟩;have hql:q.length=4:=by rw [hq4];rfl
 rw [<- hd] at hp;unfold RJ at hq;rw [<- hq4,<- hql] at hq;have hbl:=List.length_pos_iff.2 hne;have HR:Hid (l++dJ body=iq [((none:Option Addr),0,d),(none,0,body),(none,0,q)]):=by
  unfold Hid dJ;rw [hd,hq4];simp [iq]
 have hJ:∀ (x y z:Option Addr) (i j k:Nat),iq [(x,i,d),(y,j,body),(z,k,q)]=iq [((none:Option Addr),0,d),(none,0,body),(none,0,q)]:=fun _ _ _ _ _ _=>rfl;have hJl:(iq [((none:Option Addr),0,d),(none,0,body),(none,0,q)]).length=d.length+(body.length+q.length):=by simp [iq]
 have HC:Hid (∀ (x y z:Option Addr) (i j k:Nat) (W:World),BytesIn W x d->BytesIn W y body->BytesIn W z q->∀ (t:TypeId),
  Calls prog 124 #[.slice (some ⟨W.heap.size,0,none⟩) 3 3] (W.alloc (.cells #[.slice x d.length i,.slice y body.length j,.slice z q.length k] t))
        (mi (iq [((none:Option Addr),0,d),(none,0,body),(none,0,q)]) (W.alloc (.cells #[.slice x d.length i,.slice y body.length j,.slice z q.length k] t)))):=by
  intro x y z i j k W hx hy hz t;refine MH W.heap.size 3 [(x,i,d),(y,j,body),(z,k,q)] _ ?_ ?_ ?_ (by simp) (GY W t (x,i,d) (y,j,body) (z,k,q) hx hy hz)
  ·intro u hu
   simp only [List.mem_cons,List.not_mem_nil,or_false] at hu;rcases hu with rfl | rfl | rfl
   ·exact List.length_pos_iff.1 (by rw [hdl];omega)
   ·exact hne
   ·exact List.length_pos_iff.1 (by rw [hql];omega)
  ·rw [hJ,hJl];omega
  ·rw [hJ,hJl];omega
 have HP:=aa hp;have HQ:=aa hq;have HL:=aa hql;clear hp hq hd hq4 hdl hJ hJl hl2 hs2 hql;go_enter func67,ntmps67;go_wp2_with (first
  | (go_at_call 123;(with_reducible refine (hS.out _ h2).mono ?_);rintro x w1 ⟨rfl,hb1⟩;replace h1:=h1.kept hb1;replace h2:=h2.kept hb1)
  | (go_at_call 122;(with_reducible refine (HQ.out _).mono ?_);rintro x w2 ⟨v,rfl,hown,hb2⟩;replace h1:=h1.kept hb2;replace h2:=h2.kept hb2;replace hb2:=below2 hb1 hb2;obtain ⟨a3,cap3,rfl,pI⟩:=eQ hown;clear hown)
  | (go_at_call 121;(with_reducible refine (HP.out _ h1).mono ?_);rintro x w3 ⟨v,rfl,hown,hb3⟩;obtain ⟨a1,cap1,rfl,hin1⟩:=eQ hown;clear hown h1;replace h2:=h2.kept hb3;replace pI:=pI.kept hb3;replace hb3:=below2 hb2 hb3)
  | (go_at_call 124;refine (HC.out _ _ _ _ _ _ _ hin1 h2 pI _).mono ?_;rintro x w4 ⟨v,rfl,hown,hb4⟩))
 go_ret2;rw [HR.out];refine ⟨_,rfl,fE hown (by have:=hb3.size;simp;omega),below2 (below2 hb3 ((bb _ _).alloc (aq _) _)) hb4⟩
end Go.Proofs.YthphepeniaemoaaGreat
/- Bytes in frames, read: a number of four bytes, a frame, one frame. Conditions: at most 2^30 bytes. -/
namespace Go.Proofs.YthphepeniaemoaaGreat
open Go.RowKit
/-- the number of bytes, the lowest first -/
def jP:Bytes->Nat
 | []=>0
 | c :: r=>c.toNat+256 * jP r
theorem Bq:∀ l:Bytes,jP l<256 ^ l.length
 | []=>by simp [jP]
 | c :: r=>by
   have:=Bq r;have:=c.toNat_lt;simp only [jP,List.length_cons,Nat.pow_succ];omega
theorem Bo:∀ (l:Bytes) (c:UInt8),jP (l++[c])=jP l+c.toNat * 256 ^ l.length
 | [],c=>by simp [jP]
 | a :: r,c=>by
   have:=Bo r c;simp only [List.cons_append,jP,this,List.length_cons,Nat.pow_succ];rw [Nat.mul_add,Nat.add_assoc];congr 2
   rw [Nat.mul_left_comm,Nat.mul_comm 256]
theorem Ql (m k c:Nat) (hk:k<=7) (hm:m<256 ^ k) (hc:c<256):bits BinOp.or IntKind.u64 (m:Int) (IntKind.u64.wrap ((c:Int) * 2 ^ (8 * k)))=((m+c * 256 ^ k:Nat):Int):=by
 have e:(2:Int) ^ (8 * k)=((256 ^ k:Nat):Int):=by
  have h:(2:Nat) ^ (8 * k)=256 ^ k:=by rw [Nat.pow_mul]
  rw [<- h];simp
 have hp:256 ^ k<=256 ^ 7:=Nat.pow_le_pow_right (by omega) hk;have h4:256 ^ 7=72057594037927936:=by decide
 have hx:c * 256 ^ k+256 ^ k<=18446744073709551616:=by
  have h3:c * 256 ^ k<=255 * 256 ^ k:=Nat.mul_le_mul_right _ (by omega);omega
 have e2:((c:Int) * 2 ^ (8 * k))=((c * 256 ^ k:Nat):Int):=by rw [e];simp
 have hpos:0<256 ^ k:=Nat.pow_pos (by omega);rw [e2,IntWalk.u64_in _ (by omega),u64_or_nat m (c * 256 ^ k) (by omega) (by omega)];have h7:(256:Nat) ^ k=2 ^ (8 * k):=by rw [Nat.pow_mul]
 have h8:m ||| c * 256 ^ k=c * 256 ^ k+m:=by
  rw [h7] at hm ⊢;rw [Nat.or_comm,<- Nat.shiftLeft_eq,Nat.shiftLeft_add_eq_or_of_lt hm]
 rw [h8,Nat.add_comm]
theorem Gv (a:Option Addr) (cap:Nat) (l:Bytes) (w:World) (h4:l.length=4) (h:BytesIn w a l) :
 Calls prog 174 #[.slice a l.length cap] w fun e w'=>e=.returned (.tuple #[.int .u64 (jP l:Nat),.int .i64 0])/\w=w':=by
 rcases h with h0 | ⟨A,off,rfl,hb⟩
 ·rw [h0] at h4;simp at h4
 have H4:=aa h4;have hls:l.length<=4/\4<=l.length:=by omega
 have hl0:((l.length:Int) == 0)=false:=by rw [beq_eq_false_iff_ne];omega
 have hl8:decide ((l.length:Int)>8)=false:=aM (by omega);clear h4;go_enter func174,ntmps174;go_wp2;go_loop [4,17] (fun n i=>∃ k:Nat,k<=l.length/\i=.int .i64 k/\n=.int .u64 (jP (l.take k):Nat)) (fun _ i=>l.length - (intOf i).toNat)
 case atStart=>exact ⟨0,Nat.zero_le _,rfl,rfl⟩
 case round =>
  obtain ⟨k,hk,rfl,rfl⟩:=hrel;by_cases hlt:k<l.length
  ·have hc:=hb.cell hlt
   have hs:=Bo (l.take k) l[k];rw [<- List.take_succ_eq_append_getElem hlt,List.length_take,Nat.min_eq_left (by omega)] at hs;have hm:=Bq (l.take k);rw [List.length_take,Nat.min_eq_left (by omega)] at hm;have hcl:=l[k].toNat_lt;have ho:=Ql (jP (l.take k)) k l[k].toNat (by omega) hm hcl;rw [<- hs] at ho;generalize jP (l.take k)=m at *;obtain ⟨m2,hm2⟩:∃ m2,m2=jP (l.take (k+1)):=⟨_,rfl⟩;rw [<- hm2] at ho;have HM:=aa hm2;generalize l[k]=c at *;clear hs hm hm2;go_wp2;go_round
   case rel=>exact ⟨k+1,by omega,by go_num,by rw [<- HM.out]⟩
   case measure => exact z69
  ·have hk2:Hid (l.take k=l):=List.take_of_length_le (by omega)
   rw [hk2.out];clear hk2;go_wp2;go_ret2;exact ⟨rfl,rfl⟩
/-- the frame that bytes begin with: its body, how many bytes it has, the error -/
def iT (b:Bytes):Bytes×Nat×Int :=
 if (dn b).2.2=0 then
    (if 1048576<(dn b).1 then ([],0,3)
    else if b.length<(dn b).2.1+(dn b).1+4 then ([],0,2)
    else if jP ((b.drop ((dn b).2.1+(dn b).1)).take 4)=kC ((b.drop (dn b).2.1).take (dn b).1) then ((b.drop (dn b).2.1).take (dn b).1,(dn b).2.1+(dn b).1+4,0)
    else ([],0,5))
 else ([],0,(dn b).2.2)
/-- behind frame.Get -/
def RV (r:Bytes×Nat×Int) (w:World) (e:Ending) (w':World):Prop :=
 ∃ v,e=.returned (.tuple #[v,.int .i64 r.2.1,.int .i64 r.2.2])/\w'.ownsRow w.heap.size 5 1 v r.1.length (aY r.1)/\Below w.heap.size w w'
theorem BytesIn.part {w:World} {a:Option Addr} {l:Bytes} (h:BytesIn w a l) (i n:Nat):BytesIn w (a.map (fun x=>x.add i)) ((l.drop i).take n):=by
 rcases h with h | ⟨A,off,rfl,hb⟩
 ·exact a8 (by rw [h];simp)
 ·refine ba ⟨A,off+i,by simp [Addr.add_mid],fun j hj=>?_⟩
  have hj2:j<l.length - i/\j<n:=by simp at hj;omega
  have:=hb (i+j) (by omega);rw [<- Nat.add_assoc] at this;rw [this,List.getElem_take,List.getElem_drop]
theorem Ei (w w':World) (k:Int) (hb:Below w.heap.size w w'):RV ([],0,k) w (.returned (.tuple #[.slice none 0 0,.int .i64 0,.int .i64 k])) w':=⟨_,rfl,World.ownsRow_nil _ _ _ _,hb⟩
theorem z58 {p : Prop} (h : p := by
 clear HV
 rw [HE.out]
 go_enter func131, ntmps131
 go_wp2_with (go_at_call 133; (with_reducible refine HG.out.mono ?_); rintro x w1 ⟨rfl, rfl⟩)
 go_ret3
 exact Ei _ _ _ (bb _ _)) : p := h
theorem z38 {p : Prop} (h : p := by
 go_enter func131, ntmps131
 go_wp2_with (first
      | (go_at_call 133; (with_reducible refine HG.out.mono ?_); rintro x w1 ⟨rfl, rfl⟩)
      | (go_at_call 174; (with_reducible refine (HN.out _ _ _ (by first | exact HI.out.2 _ h | simpa using HI.out.2 _ h)).mono ?_); rintro x w2 ⟨rfl, rfl⟩)
      | (go_at_call 123; (with_reducible refine (HC.out _ _ _ (by first | exact HI.out.1 _ h | exact HBN.out _ _)).mono ?_); rintro x w3 ⟨rfl, hb1⟩; replace h := h.kept hb1)
      | (go_at_call 125; (with_reducible refine (HK.out _ _ _ (by first | exact HI.out.1 _ h | exact HBN.out _ _)).mono ?_); rintro x w4 ⟨v, rfl, hown, hb2⟩))
 go_ret3
 exact Ei _ _ _ hb1) : p := h
theorem GG (a:Option Addr) (cap:Nat) (l:Bytes) (w:World) (hl:l.length<=1073741824) (hcap:l.length<=cap) (h:BytesIn w a l) :
 Calls prog 131 #[.slice a l.length cap] w (RV (iT l) w):=by
 have hd:=Gx a cap l w hl h;have hfit:=rQ l;have HV:Hid (iT l=if (dn l).2.2=0 then
  (if 1048576<(dn l).1 then ([],0,3)
  else if l.length<(dn l).2.1+(dn l).1+4 then ([],0,2)
  else if jP ((l.drop ((dn l).2.1+(dn l).1)).take 4)=kC ((l.drop (dn l).2.1).take (dn l).1) then ((l.drop (dn l).2.1).take (dn l).1,(dn l).2.1+(dn l).1+4,0)
  else ([],0,5))
 else ([],0,(dn l).2.2)):=rfl
 obtain ⟨n,k,e,hg⟩:∃ n k e,dn l=(n,k,e):=⟨_,_,_,rfl⟩;rw [hg] at hd hfit HV;simp only at hd hfit HV;clear hg;have HG:=aa hd;clear hd;rcases hfit with ⟨rfl,hn,hk0,hkl⟩ | ⟨he2,rfl,rfl⟩
 ·replace HV:=aa (HV.out.trans (if_pos rfl))
  by_cases hbig:1048576<n
  ·have HE:=aa (HV.out.trans (if_pos hbig))
   exact z58
  ·replace HV:=aa (HV.out.trans (if_neg hbig))
   by_cases hsh:l.length<k+n+4
   ·have HE:=aa (HV.out.trans (if_pos hsh))
    have hlt:decide ((l.length:Int) - (k:Int) - 4<(n:Int))=true:=aR (by omega)
    exact z58
   ·have hlt:decide ((l.length:Int) - (k:Int) - 4<(n:Int))=false:=aM (by omega)
    replace HV:=aa (HV.out.trans (if_neg hsh));have hnb:n<=1048576:=by omega
    have Yx:k+n+4<=l.length:=by omega
    have hBl:((l.drop k).take n).length=n:=by simp;omega
    have hQl:((l.drop (k+n)).take 4).length=4:=by simp;omega
    have hBi:=fun (W:World) (h:BytesIn W a l)=>BytesIn.part h k n;have hQi:=fun (W:World) (h:BytesIn W a l)=>BytesIn.part h (k+n) 4;have hql:=Bq ((l.drop (k+n)).take 4);rw [hQl,show 256 ^ 4=4294967296 by decide] at hql;have hcl:=tY ((l.drop k).take n);have hN:=fun (x:Option Addr) (c:Nat) (W:World) (h:BytesIn W x ((l.drop (k+n)).take 4))=>Gv x c ((l.drop (k+n)).take 4) W hQl h;have hC:=fun (x:Option Addr) (c:Nat) (W:World) (h:BytesIn W x ((l.drop k).take n))=>DC x c ((l.drop k).take n) W (by omega) h;have hK:=fun (x:Option Addr) (c:Nat) (W:World) (h:BytesIn W x ((l.drop k).take n))=>lh x c ((l.drop k).take n) W (by omega) h;rw [hQl] at hN;rw [hBl] at hC hK;generalize (l.drop k).take n=B at *;generalize (l.drop (k+n)).take 4=Q at *;generalize jP Q=q at *;generalize kC B=c at *;have hwr:IntKind.u32.wrap (q:Int)=(q:Int):=IntWalk.u32_in _ (by omega);have HN:=aa hN;have HC:=aa hC;have HK:=aa hK;have HI:=aa (a7 hBi hQi);have HB:=aa hBl;clear hN hC hK hBl hQl hBi hQi hsh hbig;by_cases hqc:q=c
    ·have HE:=aa (HV.out.trans (if_pos hqc))
     have hq1:((q:Int) == (c:Int))=true:=by rw [beq_iff_eq];omega
     have hq2:((q:Int) != (c:Int))=false:=by rw [bne_eq_false_iff_eq];omega
     have hq3:(q == c)=true:=by rw [beq_iff_eq];omega
     have hq4:(q != c)=false:=by rw [bne_eq_false_iff_eq];omega
     clear HV hqc;rw [HE.out];rcases Nat.eq_zero_or_pos n with rfl | hn0
     ·have HB0:Hid (B=[]):=List.length_eq_zero_iff.1 HB.out
      have HBN:Hid (∀ (x:Option Addr) (W:World),BytesIn W x B):=fun _ _=>a8 HB0.out;go_enter func131,ntmps131;go_wp2_with (first
           | (go_at_call 133;(with_reducible refine HG.out.mono ?_);rintro x w1 ⟨rfl,rfl⟩)
           | (go_at_call 174;(with_reducible refine (HN.out _ _ _ (by first | exact HI.out.2 _ h | simpa using HI.out.2 _ h)).mono ?_);rintro x w2 ⟨rfl,rfl⟩)
           | (go_at_call 123;(with_reducible refine (HC.out _ _ _ (by first | exact HI.out.1 _ h | exact HBN.out _ _)).mono ?_);rintro x w3 ⟨rfl,hb1⟩;replace h:=h.kept hb1)
           | (go_at_call 125;(with_reducible refine (HK.out _ _ _ (by first | exact HI.out.1 _ h | exact HBN.out _ _)).mono ?_);rintro x w4 ⟨v,rfl,hown,hb2⟩))
      go_ret3
      rw [HB0.out] at hown ⊢;exact ⟨_,rfl,fE hown hb1.size,below2 hb1 hb2⟩
     ·have hkn:¬ (k+n=k):=by omega
      have hnn:¬ (n=0):=by omega
      go_enter func131,ntmps131;go_wp2_with (first
           | (go_at_call 133;(with_reducible refine HG.out.mono ?_);rintro x w1 ⟨rfl,rfl⟩)
           | (go_at_call 174;(with_reducible refine (HN.out _ _ _ (by first | exact HI.out.2 _ h | simpa using HI.out.2 _ h)).mono ?_);rintro x w2 ⟨rfl,rfl⟩)
           | (go_at_call 123;(with_reducible refine (HC.out _ _ _ (by first | exact HI.out.1 _ h | exact HBN.out _ _)).mono ?_);rintro x w3 ⟨rfl,hb1⟩;replace h:=h.kept hb1)
           | (go_at_call 125;(with_reducible refine (HK.out _ _ _ (by first | exact HI.out.1 _ h | exact HBN.out _ _)).mono ?_);rintro x w4 ⟨v,rfl,hown,hb2⟩))
      go_ret3
      exact ⟨_,rfl,fE hown hb1.size,below2 hb1 hb2⟩
    ·have HE:=aa (HV.out.trans (if_neg hqc))
     have hq1:((q:Int) == (c:Int))=false:=by rw [beq_eq_false_iff_ne];omega
     have hq2:((q:Int) != (c:Int))=true:=by rw [bne_iff_ne];omega
     have hq3:(q == c)=false:=by rw [beq_eq_false_iff_ne];omega
     have hq4:(q != c)=true:=by rw [bne_iff_ne];omega
     clear HV hqc;rw [HE.out];rcases Nat.eq_zero_or_pos n with rfl | hn0
     ·have HB0:Hid (B=[]):=List.length_eq_zero_iff.1 HB.out
      have HBN:Hid (∀ (x:Option Addr) (W:World),BytesIn W x B):=fun _ _=>a8 HB0.out
      exact z38
     ·have hkn:¬ (k+n=k):=by omega
      have hnn:¬ (n=0):=by omega
      exact z38
 ·refine y52 ?_
  intro hne hne2
  have HE:Hid (iT l=([],0,e)):=HV.out.trans (if_neg (by omega))
  exact z58
end Go.Proofs.YthphepeniaemoaaGreat
/- One frame; how many bytes a frame has; the frames at the beginning of bytes. Conditions: at most 2^30 bytes. -/
namespace Go.Proofs.YthphepeniaemoaaGreat
open Go.RowKit
/-- the body of the one frame that bytes are -/
def zi (b:Bytes):Bytes×Int:=if (iT b).2.2=0 then (if (iT b).2.1<b.length then ([],1) else ((iT b).1,0)) else ([],(iT b).2.2)
def LX (r:Bytes×Int) (w:World) (e:Ending) (w':World):Prop :=
 ∃ v,e=.returned (.tuple #[v,.int .i64 r.2])/\w'.ownsRow w.heap.size 5 1 v r.1.length (aY r.1)/\Below w.heap.size w w'
theorem J5 (w w':World) (k:Int) (hb:Below w.heap.size w w'):LX ([],k) w (.returned (.tuple #[.slice none 0 0,.int .i64 k])) w':=⟨_,rfl,World.ownsRow_nil _ _ _ _,hb⟩
theorem yD (l:Bytes):((iT l).2.2=0/\5<=(iT l).2.1/\(iT l).2.1<=l.length/\(iT l).1.length<=1048576/\(iT l).1.length+5<=(iT l).2.1)\/((iT l).2.2≠0/\(iT l).2.2<=5/\0<=(iT l).2.2/\(iT l).1=[]/\(iT l).2.1=0):=by
 have h:=rQ l;unfold iT;split
 ·split
  ·right;simp
  ·split
   ·right;simp
   ·split
    ·left;simp;omega
    ·right;simp
 ·right;refine ⟨by assumption,?_,?_,rfl,rfl⟩ <;> simp only <;> omega
theorem z113 {p : Prop} (h : p := by
 rw [HE.out]
 go_enter func87, ntmps87
 go_wp2_with (go_at_call 131; (with_reducible refine HG.out.mono ?_); rintro x w1 ⟨v, rfl, hown, hb⟩)
 go_ret2
 exact J5 _ _ _ hb) : p := h
theorem Gz (a:Option Addr) (cap:Nat) (l:Bytes) (w:World) (hl:l.length<=1073741824) (hcap:l.length<=cap) (h:BytesIn w a l) :
 Calls prog 87 #[.slice a l.length cap] w (LX (zi l) w):=by
 have hg:=GG a cap l w hl hcap h;have hf:=yD l;have HV:Hid (zi l=if (iT l).2.2=0 then (if (iT l).2.1<l.length then ([],1) else ((iT l).1,0)) else ([],(iT l).2.2)):=rfl;obtain ⟨b,n,e,hx⟩:∃ b n e,iT l=(b,n,e):=⟨_,_,_,rfl⟩;rw [hx] at hg hf HV;simp only at hf HV;unfold RV at hg;simp only at hg;have HG:=aa hg;clear hg hx;rcases hf with ⟨rfl,h5,hn,-,-⟩ | ⟨he,-,-,rfl,rfl⟩
 ·replace HV:=aa (HV.out.trans (if_pos rfl))
  by_cases hlt:n<l.length
  ·have HE:=aa (HV.out.trans (if_pos hlt))
   clear HV
   exact z113
  ·have HE:=aa (HV.out.trans (if_neg hlt))
   clear HV;rw [HE.out];have hd:decide ((n:Int)<(l.length:Int))=false:=aM (by omega);go_enter func87,ntmps87;go_wp2_with (go_at_call 131;(with_reducible refine HG.out.mono ?_);rintro x w1 ⟨v,rfl,hown,hb⟩)
   go_ret2;exact ⟨_,rfl,hown,hb⟩
 ·refine y52 ?_
  intro hne hne2
  have HE:Hid (zi l=([],e)):=HV.out.trans (if_neg he);clear HV he
  exact z113
/-- how many bytes a frame has, of a body of n bytes -/
def GZ (n:Nat):Nat:=(aU n).length+n+4
end Go.Proofs.YthphepeniaemoaaGreat
/- The frames at the beginning of bytes. Conditions: at most 2^30 bytes. -/
namespace Go.Proofs.YthphepeniaemoaaGreat
open Go.RowKit
end Go.Proofs.YthphepeniaemoaaGreat
