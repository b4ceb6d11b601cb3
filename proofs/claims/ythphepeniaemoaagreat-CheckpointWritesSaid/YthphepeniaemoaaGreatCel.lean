/- Which events may be: event.Right. Conditions: texts of at most 2^30 bytes, at most 2^30 dots. -/
import Derived.Test.YthphepeniaemoaaGreatDot
import Derived.Test.YthphepeniaemoaaGreatItem
import Derived.Test.YthphepeniaemoaaGreatEq
import Derived.Test.YthphepeniaemoaaGreatChecked
import Derived.Test.YthphepeniaemoaaGreatKit
import Derived.Maps.AppendAt
import Derived.Lib.SliceRun
import Derived.Deep.MidRow
import Derived.OrdersHeld
import Derived.Deep.RegionLaw
import Derived.Deep.RegionHeld3
import Derived.BigQuiet
import Derived.Deep.AppendLies
import Derived.Great.BuildSlice
import Derived.Great.FillDense
set_option linter.unusedSimpArgs false
set_option linter.unusedVariables false
set_option linter.unnecessarySimpa false
set_option maxHeartbeats 16000000
set_option maxRecDepth 100000
open Go.Proofs.Tryz
namespace Go.Proofs.YthphepeniaemoaaGreat
open Go.RowKit
structure Ev where
 dot:Dot
 stamp:Stamp
 kind:Int
 key:Key
 ck:Ck
 over:List Dot
 deriving DecidableEq
def eQ:Key:=⟨ByteArray.empty,ByteArray.empty,ByteArray.empty⟩
def ck0:Ck:=⟨ByteArray.empty,false,false,false,false,0,0,0⟩
def IY:Dot:=⟨⟨0,0⟩,0⟩
def Ai:Stamp:=⟨0,0,0⟩
def ev0:Ev:=⟨IY,Ai,0,eQ,ck0,[]⟩
def kindOk (e:Ev):Bool:=if e.kind=2 then (decide (e.key=eQ) && decide (e.ck=ck0)) && decide (0<e.over.length) else if e.kind=1 then gq e.key e.ck else false
def dm (e:Ev):Bool:=bn e.dot && (dI e.stamp && (decide (e.stamp.dev=e.dot.a.dev) && (overOk e.dot e.over && kindOk e)))
/-- an event's texts and lists are short -/
structure EvSmall (e:Ev):Prop where
 name:e.key.name.size<=1073741824
 domain:e.key.domain.size<=1073741824
 path:e.key.path.size<=1073741824
 value:e.ck.value.size<=1073741824
 over:e.over.length<=1073741824
/-- an event's value -/
abbrev SH (k:Key) (c:Ck):Value:=.agg #[.string k.name,.string k.domain,.string k.path,.string c.value,.bool c.hostOnly,.bool c.secure,.bool c.httpOnly,.bool c.persistent,.int .i64 c.expiry,.int .i64 c.creation,.int .i64 c.access]
abbrev kV (e:Ev) (a:Option Addr) (cap:Nat):Value :=
 .agg #[.int .i64 e.dot.a.dev,.int .i64 e.dot.a.inc,.int .i64 e.dot.seq,.int .i64 e.stamp.wall,.int .i64 e.stamp.count,.int .i64 e.stamp.dev,.int .i64 e.kind,.string e.key.name,.string e.key.domain,.string e.key.path,.string e.ck.value,.bool e.ck.hostOnly,.bool e.ck.secure,.bool e.ck.httpOnly,.bool e.ck.persistent,.int .i64 e.ck.expiry,.int .i64 e.ck.creation,.int .i64 e.ck.access,.slice a e.over.length cap]
theorem Rz (e:Ev) (a:Option Addr) (cap:Nat) (w:World) :
 Calls prog 107 #[kV e a cap] w fun x w'=>x=.returned (SH e.key e.ck)/\Below w.heap.size w w':=by
 go_enter func107,ntmps107;go_wp2;go_returns;exact ⟨rfl,by go_grown⟩
theorem BD:laidOutB prog=true:=by kernel_rfl
theorem Qh:Maps.Keyed prog 74:=.of_law (deep_law_laid BD (m:=3) (by omega) (of_decide_eq_true (by kernel_rfl)) (by kernel_rfl) (by kernel_rfl))
theorem UB:Maps.Keyed prog 76:=.of_law (deep_law_laid BD (m:=3) (by omega) (of_decide_eq_true (by kernel_rfl)) (by kernel_rfl) (by kernel_rfl))
theorem UA:Maps.Keyed prog 78:=.of_law (deep_law_laid BD (m:=3) (by omega) (of_decide_eq_true (by kernel_rfl)) (by kernel_rfl) (by kernel_rfl))
abbrev fD (a:Actor):Value:=.agg #[.int .i64 a.dev,.int .i64 a.inc]
abbrev bZ (d:Dot):Value:=.agg #[.int .i64 d.a.dev,.int .i64 d.a.inc,.int .i64 d.seq]
abbrev kQ (k:Key):Value:=.agg #[.string k.name,.string k.domain,.string k.path]
abbrev wf64 (n:Int):Prop:=(Lit.int .i64 n).wf=true
structure ActW (a:Actor):Prop where
 dev:wf64 a.dev
 inc:wf64 a.inc
structure DotW (d:Dot):Prop where
 a:ActW d.a
 seq:wf64 d.seq
structure KeyW (k:Key):Prop where
 name:k.name.size<=maxLen
 domain:k.domain.size<=maxLen
 path:k.path.size<=maxLen
theorem vP:prog.cellsOf 74=2:=by kernel_rfl
theorem Ji:prog.cellsOf 76=3:=by kernel_rfl
theorem Jg:prog.cellsOf 78=3:=by kernel_rfl
theorem Jh:prog.cellsOf 3=1:=by kernel_rfl
theorem Jf:prog.cellsOf 9=1:=by kernel_rfl
theorem Sz:prog.keyType 74=true:=by kernel_rfl
theorem VB:prog.keyType 76=true:=by kernel_rfl
theorem VA:prog.keyType 78=true:=by kernel_rfl
theorem yl:∃ m,prog.types.size=m+3:=⟨prog.types.size - 3,by have:3<=prog.types.size:=of_decide_eq_true (by kernel_rfl);omega⟩
theorem Bv (m:Nat) {n:Int} (h:wf64 n):prog.keyLits (m+1) 3 [.int .i64 n]=some [.int .i64 n]:=by
 unfold Program.keyLits;simp only [underlying3];rw [if_pos (by simpa using h)]
theorem sS (m:Nat) {s:ByteArray} (h:s.size<=maxLen):prog.keyLits (m+1) 9 [.string s]=some [.string s.data.toList]:=by
 unfold Program.keyLits;simp only [underlying9];rw [if_pos h]
theorem Bz (m:Nat) {a:Actor} (h:ActW a):prog.keyLits (m+2) 74 [.int .i64 a.dev,.int .i64 a.inc]=some [.int .i64 a.dev,.int .i64 a.inc]:=by
 unfold Program.keyLits;simp only [underlying74,vP];rw [if_pos ⟨rfl,by simp⟩];simp only [List.mapM_cons,List.mapM_nil,List.drop_zero,List.drop_succ_cons,Jh,List.take_succ_cons,List.take_zero,Bv m h.dev,Bv m h.inc];rfl
theorem Qe (m:Nat) {d:Dot} (h:DotW d):prog.keyLits (m+3) 76 [.int .i64 d.a.dev,.int .i64 d.a.inc,.int .i64 d.seq]=some [.int .i64 d.a.dev,.int .i64 d.a.inc,.int .i64 d.seq]:=by
 unfold Program.keyLits;simp only [underlying76,Ji];rw [if_pos ⟨rfl,by simp⟩];simp only [List.mapM_cons,List.mapM_nil,List.drop_zero,List.drop_succ_cons,Jh,vP,List.take_succ_cons,List.take_zero,Bv (m+1) h.seq,Bz m h.a];rfl
theorem Qd (m:Nat) {k:Key} (h:KeyW k):∃ l,prog.keyLits (m+3) 78 [.string k.name,.string k.domain,.string k.path]=some l:=by
 unfold Program.keyLits;simp only [underlying78,Jg];rw [if_pos ⟨rfl,by simp⟩];simp only [List.mapM_cons,List.mapM_nil,List.drop_zero,List.drop_succ_cons,Jf,List.take_succ_cons,List.take_zero,sS (m+1) h.name,sS (m+1) h.domain,sS (m+1) h.path];exact ⟨_,rfl⟩
theorem Om (a:Actor) (h:ActW a):∃ l,keyOf prog 74 (fD a)=some l:=by
 obtain ⟨m,hm⟩:=yl;unfold keyOf;rw [underlying74,hm];have hf:Value.formed prog 74 (fD a)=true:=by simp only [fD,Value.formed,underlying74,vP];rfl
 simp only [Sz,hf,Bool.and_self,if_true,fD,Value.cells,Bz (m+2) h];exact ⟨_,rfl⟩
theorem SE (d:Dot) (h:DotW d):∃ l,keyOf prog 76 (bZ d)=some l:=by
 obtain ⟨m,hm⟩:=yl;unfold keyOf;rw [underlying76,hm];have hf:Value.formed prog 76 (bZ d)=true:=by simp only [bZ,Value.formed,underlying76,Ji];rfl
 simp only [VB,hf,Bool.and_self,if_true,bZ,Value.cells,Qe (m+1) h];exact ⟨_,rfl⟩
theorem SB (k:Key) (h:KeyW k):∃ l,keyOf prog 78 (kQ k)=some l:=by
 obtain ⟨m,hm⟩:=yl;obtain ⟨l,hl⟩:=Qd (m+1) h;unfold keyOf;rw [underlying78,hm];have hf:Value.formed prog 78 (kQ k)=true:=by simp only [kQ,Value.formed,underlying78,Jg];rfl
 simp only [VA,hf,Bool.and_self,if_true,kQ,Value.cells,hl];exact ⟨_,rfl⟩
theorem vF:Kind prog 74 fD ActW:=⟨Qh,fun x y h=>by
 obtain ⟨a,b⟩:=x;obtain ⟨c,d⟩:=y;simpa [fD] using h,Om⟩
theorem jE:Kind prog 76 bZ DotW:=⟨UB,fun x y h=>by
 obtain ⟨⟨a,b⟩,c⟩:=x;obtain ⟨⟨a2,b2⟩,c2⟩:=y;simpa [bZ,and_assoc] using h,SE⟩
theorem BG:Kind prog 78 kQ KeyW:=⟨UA,fun x y h=>by
 obtain ⟨a,b,c⟩:=x;obtain ⟨a2,b2,c2⟩:=y;simpa [kQ] using h,SB⟩
theorem Ff {n:Int} (h1 : -9223372036854775808<=n) (h2:n<=9223372036854775807):wf64 n:=by
 have e1:IntKind.i64.min = -9223372036854775808:=by decide
 have e2:IntKind.i64.max=9223372036854775807:=by decide
 simp only [wf64,Lit.wf,e1,e2,Bool.and_eq_true,decide_eq_true_eq];exact ⟨h1,h2⟩
theorem Pe {a:Actor} (h:jk a=true):ActW a:=by
 simp only [jk,Bool.and_eq_true,decide_eq_true_eq] at h;exact ⟨Ff (by omega) (by omega),Ff (by omega) (by omega)⟩
theorem iw {d:Dot} (h:bn d=true):DotW d:=by
 simp only [bn,Bool.and_eq_true,decide_eq_true_eq] at h;exact ⟨Pe h.1,Ff (by omega) (by omega)⟩
def aA (l:Bytes):List Value:=l.map fun x=>.int .u8 x.toNat
/-- a slice of bytes reads as l -/
def BytesIn (w:World) (a:Option Addr) (l:Bytes):Prop:=l=[]\/∃ A off,a=some ⟨A,off,none⟩/\BytesAt w A off l
theorem BytesIn.kept {w w':World} {a:Option Addr} {l:Bytes} (h:BytesIn w a l) (hb:Below w.heap.size w w'):BytesIn w' a l:=by
 rcases h with h | ⟨A,off,h1,h2⟩
 ·exact bb h
 ·exact bd ⟨A,off,h1,h2.below hb⟩
theorem aU (l:Bytes):(aA l).length=l.length:=by simp [aA]
theorem bG (l m:Bytes):aA (l++m)=aA l++aA m:=by simp [aA]
theorem bI (l:Bytes):∀ u∈aA l,u.oneCell'=true:=by
 intro u hu;simp only [aA,List.mem_map] at hu;obtain ⟨x,_,rfl⟩:=hu;rfl
theorem BytesAt.news {w:World} {A off:Nat} {l:Bytes} (h:BytesAt w A off l):∀ j u,(aA l)[j]?=some u->w.cell? ((⟨A,off,none⟩:Addr).add j)=some u:=by
 intro j u hj;obtain ⟨hj',rfl⟩:=List.getElem?_eq_some_iff.1 hj;rw [aU] at hj';rw [Addr.add_mid];rw [h j hj'];simp [aA]
/-- what hands back bytes in memory of its own -/
def dO (l:Bytes) (w:World) (e:Ending) (w':World):Prop :=
 ∃ v,e=.returned v/\w'.ownsRow w.heap.size 5 1 v l.length (aA l)/\Below w.heap.size w w'
theorem Tryz.infoByte:(prog.info? 5).map (fun i=>(i.zero,i.size,i.bytes))=some (some (.int .u8 0),1,1):=by kernel_rfl
theorem lg (a:Option Addr) (cap:Nat) (l:Bytes) (w:World) (hl:l.length<=1073741824) (h:BytesIn w a l) :
 Calls prog 125 #[.slice a l.length cap] w (dO l w):=by
 obtain ⟨i0,hi,hz0,hz1,hz2⟩:=info_parts Tryz.infoByte;have hnil:=fun (W:World)=>Lib.run_eql_slice_nil (P:=prog) W 54 5 a l.length cap 0 0 underlying54
 cases a with
 | none =>
   have hl0:l=[]:=by rcases h with h | ⟨A,off,h1,_⟩;exact h;cases h1
   subst hl0;simp only [List.length_nil] at hnil ⊢;go_enter func125,ntmps125;go_wp2;go_ret;exact ⟨_,rfl,World.ownsRow_nil _ _ _ _,bh _ _⟩
 | some ad =>
   have hnews:∀ j u,(aA l)[j]?=some u->w.cell? (ad.add j)=some u:=by
    rcases h with rfl | ⟨A,off,h1,h2⟩
    ·intro j u hj;simp [aA] at hj
    ·obtain rfl:ad=⟨A,off,none⟩:=by simpa using h1
     exact h2.news
   have HN:Hid (∀ j u,(aA l)[j]?=some u->(w.alloc (Obj.cells #[] 5)).cell? (ad.add j)=some u):=fun j u hj=>kept ((bh _ _).alloc (ar _) _) (hnews j u hj);have hown:(w.alloc (Obj.cells #[] 5)).ownsRow w.heap.size 5 1 (.slice (some ⟨w.heap.size,0,none⟩) 0 0) 0 []:=World.ownsRow_made _ _ _ (ar _) (by decide) rfl;have hbv:=aU l;clear hnews h;go_enter func125,ntmps125;go_wp2_with (at_builtin;go_loud (refine wpList_append_own _ rfl _ _ 54 rfl w.heap.size 5 i0 (.int .u8 0) 1 1 underlying54 hi hz0 hz1 hz2 rfl (by decide) _ _ _ rfl hown ad l.length cap (aA l) rfl (by rw [hbv];simp) HN.out (bI l) (by unfold maxLen;omega) (by omega) (by simp) ?_))
   intro v' w2 hown2 hgrow _;have hb2:=((bh w.heap.size w).alloc (ar _) (Obj.cells #[] 5)).grown hgrow (by simp) (fun k hk=>(hown.lt k hk).1);go_wp2;go_ret;exact ⟨_,rfl,by simpa using hown2,hb2⟩
/-- a number's short bytes -/
def aj (n:Nat):Bytes:=if n<128 then [UInt8.ofNat n] else UInt8.ofNat (n % 128+128) :: aj (n / 128)
theorem kH (n:Nat) (h:n<128):aj n=[UInt8.ofNat n]:=by rw [aj,if_pos h]
theorem qL (n:Nat) (h:¬ n<128):aj n=UInt8.ofNat (n % 128+128) :: aj (n / 128):=by rw [aj,if_neg h]
theorem Am:∀ (k n:Nat),n<128 ^ (k+1)->(aj n).length<=k+1
 | 0,n,h=>by rw [kH n (by simpa using h)];simp
 | k+1,n,h=>by
   by_cases h1:n<128
   ·rw [kH n h1];simp
   ·rw [qL n h1]
    have:=Am k (n / 128) (by rw [Nat.pow_succ] at h;omega);simp;omega
theorem aQ (n:Nat) (h:n<18446744073709551616):(aj n).length<=10:=Am 9 n (by omega)
theorem NV:∀ x:Fin 256,bits BinOp.or IntKind.u8 ((x.val:Nat):Int) 128=((x.val % 128+128:Nat):Int):=by decide +kernel
theorem Vy (m:Nat):bits BinOp.or IntKind.u8 ((m:Int) % 256) 128=((m % 128+128:Nat):Int):=by
 have h:=NV ⟨m % 256,by omega⟩;simp only at h;rw [show ((m % 256:Nat):Int)=(m:Int) % 256 by omega] at h;rw [h];congr 1;omega
theorem z44 {p : Prop} (h : p := by
 go_wp2_with (at_builtin; go_loud (refine wpList_append_own _ rfl _ _ 54 rfl w.heap.size 5 i0 (.int .u8 0) 1 1 underlying54 hi hz0 hz1 hz2 rfl (by decide) _ _ _ rfl (hown2.alloc _) ⟨wr.heap.size, 0, none⟩ 1 1 [.int .u8 (m : Int)] rfl rfl (cell_one_new _ _ _) (by simp [Value.oneCell']) (by unfold maxLen; omega) (by omega) (by simp; omega) ?_))
 intro v' w2 hown3 hgrow _
 have hb3 := (lm.alloc hzw (Obj.cells #[.int .u8 (m : Int)] 5)).grown hgrow (by simp; omega) (fun k hk => (hown2.lt k hk).1)
 go_wp2
 go_ret
 exact ⟨_, rfl, by rw [hx.out] at hown3; rw [HP.out, hS.out]; simpa [bG, aA] using hown3, hb3⟩) : p := h
theorem zZ (a:Option Addr) (cap:Nat) (l:Bytes) (n:Nat) (w:World) (hl:l.length<=536870912) (hn:n<18446744073709551616) (h:BytesIn w a l) :
 Calls prog 121 #[.slice a l.length cap,.int .u64 n] w (dO (l++aj n) w):=by
 obtain ⟨i0,hi,hz0,hz1,hz2⟩:=info_parts Tryz.infoByte;have HC:=aq (fun (W:World) (h:BytesIn W a l)=>lg a cap l W (by omega) h);go_enter func121,ntmps121;go_wp2_with (go_at_call 125;refine (HC.out _ h).mono ?_;rintro e w1 ⟨v,rfl,hown,hbel⟩)
 go_loopw [1,5] (fun x out wr=>∃ (m:Nat) (d:Bytes),x=.int .u64 m/\m<=n/\d.length+(aj m).length=l.length+(aj n).length/\l++aj n=d++aj m/\wr.ownsRow w.heap.size 5 1 out d.length (aA d)/\Below w.heap.size w wr) (fun x _ _=>(intOf x).toNat)
 case atStart=>exact ⟨n,l,rfl,ar _,rfl,rfl,hown,hbel⟩
 case round =>
  obtain ⟨m,d,rfl,hm,hlen,hpre,hown2,lm⟩:=hrel;have HP:=aq hpre;clear hpre;have hzw:=lm.size;by_cases h1:m<128
  ·have hS:=aq (kH m h1)
   have hl1:d.length<=l.length+10:=by have:=aQ n hn;omega
   have hx:Hid (Value.int .u8 (m:Int)=.int .u8 (UInt8.ofNat m).toNat):=by unfold Hid;congr 1;rw [UInt8.toNat_ofNat'];omega
   clear hlen
   exact z44
  ·have hS:=aq (qL m h1)
   have hl0:(aj m).length=(aj (m / 128)).length+1:=by rw [hS.out];simp
   have hl1:d.length<=l.length+10:=by have:=aQ n hn;omega
   have hl2:(d++[UInt8.ofNat (m % 128+128)]).length+(aj (m / 128)).length=l.length+(aj n).length:=by simp;omega
   have HL2:=aq hl2;have hbo:=Vy m;have hx:Hid (Value.int .u8 ((m:Int) % 128+128)=.int .u8 (UInt8.ofNat (m % 128+128)).toNat):=by unfold Hid;congr 1;rw [UInt8.toNat_ofNat'];omega
   clear hlen hl0 hl2;go_wp2_with (at_builtin;go_loud (refine wpList_append_own _ rfl _ _ 54 rfl w.heap.size 5 i0 (.int .u8 0) 1 1 underlying54 hi hz0 hz1 hz2 rfl (by decide) _ _ _ rfl (hown2.alloc _) ⟨wr.heap.size,0,none⟩ 1 1 [_] rfl rfl (cell_one_new _ _ _) (by simp [Value.oneCell']) (by unfold maxLen;omega) (by omega) (by simp;omega) ?_))
   intro v' w2 hown3 hgrow _;have hb3:=(lm.alloc hzw _).grown hgrow (by simp;omega) (fun k hk=>(hown2.lt k hk).1);go_wp2;go_roundw
   case rel=>exact ⟨m / 128,d++[UInt8.ofNat (m % 128+128)],by go_num,by omega,HL2.out,by rw [HP.out,hS.out];simp,by rw [hx.out] at hown3;simpa [bG,aA] using hown3,hb3⟩
   case measure => exact z67
/-- where a slice begins that is cut at element i, each of so many cells -/
def oV (a:Option Addr) (cap i size:Nat):Option Addr:=if cap=i then a else a.map (fun x=>x.add (i * size))
theorem BytesIn.cut {w:World} {a:Option Addr} {l:Bytes} (h:BytesIn w a l) {cap:Nat} (hc:l.length<=cap) (i:Nat):BytesIn w (oV a cap i 1) (l.drop i):=by
 unfold oV;split
 ·rename_i h0;exact bb (List.drop_eq_nil_of_le (by omega))
 ·rcases h with h | ⟨A,off,rfl,hb⟩
  ·exact bb (by rw [h];simp)
  ·refine bd ⟨A,off+i,by simp [Addr.add_mid],fun j hj=>?_⟩
   have h1:i+j<l.length:=by simp at hj;omega
   have:=hb (i+j) h1;rw [<- Nat.add_assoc] at this;rw [this,List.getElem_drop]
theorem BytesIn.take {w:World} {a:Option Addr} {l:Bytes} (h:BytesIn w a l) (n:Nat):BytesIn w a (l.take n):=by
 rcases h with h | ⟨A,off,ha,hb⟩
 ·exact bb (by rw [h];simp)
 ·refine bd ⟨A,off,ha,fun j hj=>?_⟩
  have h1:j<l.length:=by simp at hj;omega
  rw [hb j h1];simp
section
variable {P:Program}
theorem nY (w:World) (t e:TypeId) (i0:TypeInfo) (a:Option Addr) (n cap:Nat) (k:IntKind) (i size:Nat) (ht:P.underlying t=some (.slice e)) (hi:P.info? e=some i0) (hs:i0.size=size) (h1:i<=n) :
 (Instr.sliceAt t (.slice a n cap) (some (.int k i)) none none).run P w=.ok (.slice (oV a cap i size) (n - i) (cap - i)) w:=by
 subst hs;simp [Instr.sliceAt,Instr.slice,Instr.sliceBounds,Instr.sliceBound,asIntOf,run_underlying ht,sizeOf,typeInfo,hi,oV];intro h3;omega
theorem nZ (w:World) (t e:TypeId) (i0:TypeInfo) (a:Option Addr) (n cap:Nat) (k:IntKind) (j:Nat) (ht:P.underlying t=some (.slice e)) (hi:P.info? e=some i0) (h1:j<=cap) :
 (Instr.sliceAt t (.slice a n cap) none (some (.int k j)) none).run P w=.ok (.slice a j cap) w:=by
 have h3:(if cap=0 then a else a.map (fun x=>x.add 0))=a:=by
  split
  ·rfl
  ·cases a with
   | none=>rfl
   | some x=>obtain ⟨b,o,p⟩:=x;cases p <;> simp [Addr.add]
 simp [Instr.sliceAt,Instr.slice,Instr.sliceBounds,Instr.sliceBound,asIntOf,run_underlying ht,sizeOf,typeInfo,hi];rw [if_pos h1,show (if cap=0 then a else a.map (fun x=>x.add 0))=a from h3]
/-- an operation that is run to a value in whatever world -/
theorem iQ {o:Oper} {a:Act} {w:World} (t:TypeId) (x:Operand) (lo hi mx:Option Operand) (ho:o.op=.slice t x lo hi mx) (v:Value)
 (h:(Instr.sliceAt t (a.eval x) (lo.map a.eval) (hi.map a.eval) (mx.map a.eval)).run P w=.ok v w):(execOp a.eval o).run P w=.ok (.value v) w:=by
 unfold execOp;simp only [ho];simp [Sem.run_bind,h,Result.andThen]
theorem gp {ops:Array Oper} {rest:List Oper} {o:Oper} {a:Act} {C:World->Prop} {Q:Act->Prop} (hw:Region.wanted o (yielded ops a.tmps)=true) (v:Value) (h:∀ w,C w->(execOp a.eval o).run P w=.ok (.value v) w)
 (k:wpQuiet P ops C Q rest (a.put o.dst v)):wpQuiet P ops C Q (o :: rest) a :=
 BigFrame.wpQuiet_want hw fun _ hK=>⟨v,fun w hw'=>by unfold Oper.quietAt;rw [h w hw'];exact ⟨rfl,rfl⟩,hK _ k⟩
theorem dM {ops:Array Oper} {o:Oper} {a:Act} {w:World} {K:Act->World->Prop} {Q:Exit->Act->World->Prop} {E:Prop} (hw:Region.wanted o (yielded ops a.tmps)=true) (ty:TypeId) (x y:Operand) (ho:o.op=.store ty x y)
 (g:Nat) (cells:Array Value) (hx:a.eval x=.pointer (some ⟨g,0,none⟩)) (hy:a.eval y=.agg cells)
 (t:TypeId) (old:Array Value) (hg:w.heap[g]?=some (.cells old t (0,0))) (hi:(P.info? ty).map (·.size)=some cells.size)
 (hold:old.size=cells.size) (h1:cells.all (·.oneCell')=true) (h:K (a.put o.dst undef) (w.setRow g cells)) :
 if Region.wanted o (yielded ops a.tmps)=true then Oper.wp P o a w K Q else E:=by
 rw [if_pos hw];exact wp_store_row ty x y ho g cells hx hy t old hg hi hold h1 h
end
/-! ### cells -/
/-- a slice's cells, all of them -/
def CellsIn (w:World) (a:Option Addr) (cs:List Value):Prop:=cs=[]\/∃ A off,a=some ⟨A,off,none⟩/\w.rangeAt A off cs
theorem JY {w w':World} {b o:Nat} {cs:List Value} (h:w.rangeAt b o cs) (hb:Below w.heap.size w w'):w'.rangeAt b o cs:=fun j v hv=>kept hb (h j v hv)
theorem CellsIn.kept {w w':World} {a:Option Addr} {cs:List Value} (h:CellsIn w a cs) (hb:Below w.heap.size w w'):CellsIn w' a cs :=
 h.imp id fun ⟨A,off,h1,h2⟩=>⟨A,off,h1,JY h2 hb⟩
theorem CellsIn.nil {w:World} {a:Option Addr}:CellsIn w a []:=bb rfl
theorem CellsIn.take {w:World} {a:Option Addr} {cs:List Value} (h:CellsIn w a cs) (n:Nat):CellsIn w a (cs.take n):=by
 rcases h with rfl | ⟨A,off,h1,h2⟩
 ·exact bb (by simp)
 ·refine bd ⟨A,off,h1,fun j v hv=>h2 j v ?_⟩
  rw [List.getElem?_take] at hv;split at hv
  ·exact hv
  ·cases hv
theorem CellsIn.cut {w:World} {a:Option Addr} {cs:List Value} {n cap size:Nat} (h:CellsIn w a cs) (hl:cs.length=n * size) (hc:n<=cap) (i:Nat):CellsIn w (oV a cap i size) (cs.drop (i * size)):=by
 unfold oV;split
 ·rename_i h0
  refine bb (List.drop_eq_nil_of_le ?_);rw [hl];exact Nat.mul_le_mul_right _ (by omega)
 ·rcases h with h | ⟨A,off,rfl,hb⟩
  ·exact bb (by rw [h];simp)
  ·refine bd ⟨A,off+i * size,by simp [Addr.add_mid],fun j v hv=>?_⟩
   rw [List.getElem?_drop] at hv;have:=hb (i * size+j) v hv;rwa [<- Nat.add_assoc] at this
theorem fP {w:World} {base size n:Nat} {t:TypeId} {v:Value} {cs:List Value} (h:w.ownsRow base t size v n cs):∃ a cap,v=.slice a n cap/\CellsIn w a cs/\n<=cap:=by
 have hlen:=h.1;rcases h.2 with ⟨rfl,hn⟩ | ⟨g,cap,cur,hv,_,_,hc,_⟩
 ·subst hn
  have:cs=[]:=List.length_eq_zero_iff.1 (by rw [hlen];simp);subst this;exact ⟨none,0,rfl,bb rfl,ar _⟩
 ·refine ⟨some ⟨g,0,none⟩,cap,hv,bd ⟨g,0,rfl,fun j u hu=>?_⟩,hc⟩
  have:=World.ownsRow.cells (g:=g) h (by rw [hv];rfl) j u hu;rw [Addr.add_mid,aw] at this;rwa [aw]
section
variable {P:Program}
/-- an append to a slice of one's own, whatever the source is -/
theorem yc (w:World) (base:Nat) (t ty e:TypeId) (i0:TypeInfo) (z:Value) (size bytes:Nat) (ht:P.underlying t=some (.slice e)) (hi:P.info? e=some i0) (hz:i0.zero=some z)
 (hsize:i0.size=size) (hby:i0.bytes=bytes) (hzs:z.cells.size=size) (hsz:0<size)
 (v:Value) (n:Nat) (xs:List Value) (hown:w.ownsRow base e size v n xs) (A:Option Addr) (m c:Nat) (cs:List Value) (hl:cs.length=m * size) (hin:CellsIn w A cs) (h1:∀ u∈cs,u.oneCell'=true)
 (h63:n+m<=maxLen) (hbytes:(n+m) * bytes<=140737488355328) (hbase:base<=w.heap.size) :
 ∃ v' w',(Builtin.append_ #[t,t] ty #[v,.slice A m c]).run P w=.ok v' w'/\w'.ownsRow base e size v' (n+m) (xs++cs)/\w.grownBy w' v.ownBlock:=by
 have key:∀ (ad:Addr),A=some ad->(∀ j u,cs[j]?=some u->w.cell? (ad.add j)=some u)->∃ v' w',(Builtin.append_ #[t,t] ty #[v,.slice A m c]).run P w=.ok v' w'/\w'.ownsRow base e size v' (n+m) (xs++cs)/\w.grownBy w' v.ownBlock:=fun ad hA hn=>by
  obtain ⟨v',w',hrun,h2,h3,_,_⟩:=run_append_own_at (P:=P) w base t ty e i0 z size bytes ht hi hz hsize hby hzs hsz v n xs hown ad m c cs hl hn h1 h63 hbytes hbase;exact ⟨v',w',by rw [hA];exact hrun,h2,h3⟩
 rcases hin with h0 | ⟨B,off,rfl,hb2⟩
 ·subst h0
  have hm:m=0:=by
   rcases Nat.eq_zero_or_pos m with h | h
   ·exact h
   ·have:=Nat.mul_pos h hsz;simp at hl;omega
  subst hm;rcases A with _ | ad
  ·refine ⟨v,w,?_,by simpa using hown,World.grownBy.refl w _⟩
   rcases hown.2 with ⟨rfl,h0⟩ | ⟨g,cap,cur,rfl,_,_,hnc,_⟩
   ·simp [Builtin.append_,run_underlying ht,sizeOf,typeInfo,hi,Builtin.lenOf,Builtin.firstCells]
   ·simp [Builtin.append_,run_underlying ht,sizeOf,typeInfo,hi,Builtin.lenOf,Builtin.firstCells,hnc,storeCells]
  ·exact key ad rfl (fun j u hu=>by simp at hu)
 ·exact key _ rfl (fun j u hu=>by rw [Addr.add_mid];exact hb2 j u hu)
theorem rJ {o:Oper} {a:Act} {w:World} {K:Act->World->Prop} {Q:Exit->Act->World->Prop} (s x:Operand) (t:TypeId)
 (ho:o.op=.call { callee:=.builtin .append,args:=#[s,x],argTypes:=#[t,t] })
 (base:Nat) (e:TypeId) (i0:TypeInfo) (z:Value) (size bytes:Nat) (ht:P.underlying t=some (.slice e)) (hi:P.info? e=some i0) (hz:i0.zero=some z)
 (hsize:i0.size=size) (hby:i0.bytes=bytes) (hzs:z.cells.size=size) (hsz:0<size)
 (v:Value) (n:Nat) (xs:List Value) (hs:a.eval s=v) (hown:w.ownsRow base e size v n xs) (A:Option Addr) (m c:Nat) (cs:List Value) (hx:a.eval x=.slice A m c) (hl:cs.length=m * size) (hin:CellsIn w A cs) (h1:∀ u∈cs,u.oneCell'=true)
 (h63:n+m<=maxLen) (hbytes:(n+m) * bytes<=140737488355328) (hbase:base<=w.heap.size)
 (h:∀ v' w',w'.ownsRow base e size v' (n+m) (xs++cs)->w.grownBy w' v.ownBlock->K (a.put o.dst v') w'):o.wp P a w K Q:=by
 obtain ⟨v',w',hrun,h2,h3⟩:=yc (P:=P) w base t o.type e i0 z size bytes ht hi hz hsize hby hzs hsz v n xs hown A m c cs hl hin h1 h63 hbytes hbase;unfold Oper.wp execOp;simp only [ho,resolve,invoke,builtin,Sem.run_bind,Sem.run_pure,Result.andThen_ok,List.map_toArray,List.map_cons,List.map_nil,hs,hx,hrun];exact h v' w' h2 h3
theorem jM {ops:Array Oper} {rest:List Oper} {o:Oper} {a:Act} {w:World} {Q:Exit->Act->World->Prop} (hgd:o.guard=none) (s x:Operand) (t:TypeId)
 (ho:o.op=.call { callee:=.builtin .append,args:=#[s,x],argTypes:=#[t,t] })
 (base:Nat) (e:TypeId) (i0:TypeInfo) (z:Value) (size bytes:Nat) (ht:P.underlying t=some (.slice e)) (hi:P.info? e=some i0) (hz:i0.zero=some z)
 (hsize:i0.size=size) (hby:i0.bytes=bytes) (hzs:z.cells.size=size) (hsz:0<size)
 (v:Value) (n:Nat) (xs:List Value) (hs:a.eval s=v) (hown:w.ownsRow base e size v n xs) (A:Option Addr) (m c:Nat) (cs:List Value) (hx:a.eval x=.slice A m c) (hl:cs.length=m * size) (hin:CellsIn w A cs) (h1:∀ u∈cs,u.oneCell'=true)
 (h63:n+m<=maxLen) (hbytes:(n+m) * bytes<=140737488355328) (hbase:base<=w.heap.size)
 (h:∀ v' w',w'.ownsRow base e size v' (n+m) (xs++cs)->w.grownBy w' v.ownBlock->wpList P ops Q rest (a.put o.dst v') w'):wpList P ops Q (o :: rest) a w :=
 wpList_plain hgd fun _ hK=>rJ s x t ho base e i0 z size bytes ht hi hz hsize hby hzs hsz v n xs hs hown A m c cs hx hl hin h1 h63 hbytes hbase fun v' w' h2 h3=>hK _ _ (h v' w' h2 h3)
theorem au {ops:Array Oper} {o:Oper} {a:Act} {w:World} {K:Act->World->Prop} {Q:Exit->Act->World->Prop} {E:Prop} (hw:Region.wanted o (yielded ops a.tmps)=true) (s x:Operand) (t:TypeId)
 (ho:o.op=.call { callee:=.builtin .append,args:=#[s,x],argTypes:=#[t,t] })
 (base:Nat) (e:TypeId) (i0:TypeInfo) (z:Value) (size bytes:Nat) (ht:P.underlying t=some (.slice e)) (hi:P.info? e=some i0) (hz:i0.zero=some z)
 (hsize:i0.size=size) (hby:i0.bytes=bytes) (hzs:z.cells.size=size) (hsz:0<size)
 (v:Value) (n:Nat) (xs:List Value) (hs:a.eval s=v) (hown:w.ownsRow base e size v n xs) (A:Option Addr) (m c:Nat) (cs:List Value) (hx:a.eval x=.slice A m c) (hl:cs.length=m * size) (hin:CellsIn w A cs) (h1:∀ u∈cs,u.oneCell'=true)
 (h63:n+m<=maxLen) (hbytes:(n+m) * bytes<=140737488355328) (hbase:base<=w.heap.size)
 (h:∀ v' w',w'.ownsRow base e size v' (n+m) (xs++cs)->w.grownBy w' v.ownBlock->K (a.put o.dst v') w') :
 if Region.wanted o (yielded ops a.tmps)=true then Oper.wp P o a w K Q else E:=by
 rw [if_pos hw];exact rJ s x t ho base e i0 z size bytes ht hi hz hsize hby hzs hsz v n xs hs hown A m c cs hx hl hin h1 h63 hbytes hbase h
theorem CellsIn.grown {w w':World} {a:Option Addr} {cs:List Value} {row:Option Nat} (h:CellsIn w a cs) (hg:w.grownBy w' row) (hne:∀ b,a=some b->row≠some b.block):CellsIn w' a cs:=by
 rcases h with h | ⟨A,off,rfl,h2⟩
 ·exact bb h
 ·refine bd ⟨A,off,rfl,fun j v hv=>?_⟩
  have hc:=h2 j v hv;exact (World.cell?_of_block (w:=w) (hg.block A (World.block_lt_of_cell? w _ hc) (fun e=>hne _ rfl e.symm))).trans hc
theorem CellsIn.drewN {w:World} {a:Option Addr} {cs:List Value} (h:CellsIn w a cs) (n:Nat):CellsIn (w.drewN n) a cs:=h
theorem z125 {p : Prop} (h : p := by
 rcases h.2 with hn | ⟨g, cap, cur, hv, hbs, rest⟩
 ·exact ⟨h.1, .inl hn⟩
 ·exact ⟨h.1, .inr ⟨g, cap, cur, hv, Nat.le_trans hb hbs, rest⟩⟩) : p := h
theorem own_base {w:World} {base b2:Nat} {e:TypeId} {size:Nat} {v:Value} {n:Nat} {xs:List Value} (h:w.ownsRow base e size v n xs) (hb:b2<=base):w.ownsRow b2 e size v n xs:=by
 exact z125
/-- a slice of one struct, laid down -/
theorem Fe {o:Oper} {a:Act} {w:World} {K:Act->World->Prop} {Q:Exit->Act->World->Prop} (t e:TypeId) (x:Operand) (ho:o.op=.buildSlice t 1 #[(0,x)])
 (c:Array Value) (n:Nat) (hx:a.eval x=.agg c) (hc:c.size=n) (hn:0<n) (hnn:n<=16777216) (hu:P.underlying t=some (.slice e)) (hi:(P.info? e).map (·.size)=some n) (hz:((P.info? e).bind (·.zero)).isSome=true)
 (h:K (a.put o.dst (.slice (some ⟨w.heap.size,0,none⟩) 1 1)) (w.alloc (.cells c e))):o.wp P a w K Q:=by
 cases hie:P.info? e with
 | none=>simp [hie] at hi
 | some ie =>
   simp only [hie,Option.map_some,Option.some.injEq,Option.bind_some] at hi hz;obtain ⟨z,hzz⟩:=Option.isSome_iff_exists.1 hz;refine wp_buildSlice t e 1 #[(0,x)] ho c ie z hu hie hzz (by rw [hi];omega) (by rw [hi];omega) ?_ h;have hcs:(Value.agg c).cells.size=ie.size:=by rw [hi];exact hc
   have h2:=Great.fill_whole (s:=ie.size) (by omega) [.agg c] ((Array.range (1 * ie.size)).map (z.cells[· % z.cells.size]!)) (by simp only [List.mem_singleton,forall_eq];exact hcs) (by simp);have e1:((#[(0,x)]:Array (Nat×Operand)).map fun (i,x)=>(i,a.eval x)).toList=(([Value.agg c].zipIdx 0).map fun x=>(x.2,x.1)):=by simp [hx]
   rw [e1,h2];simp [Value.cells]
theorem bz {ops:Array Oper} {o:Oper} {a:Act} {w:World} {K:Act->World->Prop} {Q:Exit->Act->World->Prop} {E:Prop} (hw:Region.wanted o (yielded ops a.tmps)=true) (t e:TypeId) (x:Operand) (ho:o.op=.buildSlice t 1 #[(0,x)])
 (c:Array Value) (n:Nat) (hx:a.eval x=.agg c) (hc:c.size=n) (hn:0<n) (hnn:n<=16777216) (hu:P.underlying t=some (.slice e)) (hi:(P.info? e).map (·.size)=some n) (hz:((P.info? e).bind (·.zero)).isSome=true)
 (h:K (a.put o.dst (.slice (some ⟨w.heap.size,0,none⟩) 1 1)) (w.alloc (.cells c e))) :
 if Region.wanted o (yielded ops a.tmps)=true then Oper.wp P o a w K Q else E:=by
 rw [if_pos hw];exact Fe t e x ho c n hx hc hn hnn hu hi hz h
/-- an empty slice, made in a region whose order is open -/
theorem dw {ops:Array Oper} {o:Oper} {a:Act} {w:World} {K:Act->World->Prop} {Q:Exit->Act->World->Prop} {E:Prop} (hw:Region.wanted o (yielded ops a.tmps)=true) (t e:TypeId)
 (ho:o.op=.buildSlice t 0 #[]) (i0:TypeInfo) (z:Value) (size:Nat) (ht:P.underlying t=some (.slice e)) (hi:P.info? e=some i0) (hz:i0.zero=some z) (hsize:i0.size=size) (hsz:0<size)
 (h:∀ v' w',w'.ownsRow w.heap.size e size v' 0 []->Below w.heap.size w w'->K (a.put o.dst v') w') :
 if Region.wanted o (yielded ops a.tmps)=true then Oper.wp P o a w K Q else E:=by
 rw [if_pos hw];have hrun:(Instr.buildSlice t 0 #[]).run P w=.ok (.slice (some ⟨w.heap.size,0,none⟩) 0 0) (w.alloc (.cells #[] e)):=by
  simp [Instr.buildSlice,run_underlying ht,sizeOf,typeInfo,zeroValue,hi,hz,hsize,newRow,Instr.fill];rw [show (Array.map (fun _=>default) (Array.range 0):Array Value)=#[] from Array.eq_empty_of_size_eq_zero (by simp)]
 unfold Oper.wp execOp;simp only [ho,Sem.run_bind,Array.map_empty,hrun,Result.andThen_ok];exact h _ _ (World.ownsRow_made _ _ _ (ar _) (Nat.zero_le _) (by simp)) ((bh _ _).alloc (ar _) _)
end
section
variable {P:Program}
end
theorem z37 {p : Prop} (h : p := by exact hHeld.grown hg2 hHeld.size (fun k hk => (hown1.lt k hk).1)) : p := h
theorem z36 {p : Prop} (h : p := by exact hHeld.grown hg1 hHeld.size (fun k hk => (hown0.lt k hk).1)) : p := h
theorem z115 {p : Prop} (h : p := by
 rcases List.mem_append.1 h with h | h
 ·exact bd (List.mem_of_mem_take h)
 ·rcases List.mem_cons.1 h with h | h
  ·exact bb h
  ·exact bd (List.mem_of_mem_drop h)) : p := h
theorem z113 {p : Prop} (h : p := by
 rw [List.drop_eq_getElem_cons h, List.takeWhile_cons]
 simp only [hp, if_true, List.length_cons]) : p := h
theorem z105 {p : Prop} (h : p := by
 rw [List.drop_eq_getElem_cons h, List.takeWhile_cons]
 simp only [hp, Bool.false_eq_true, if_false, List.length_nil]) : p := h
theorem z102 {p : Prop} (h : p := by
 rw [aw]
 simp only [World.cell?, hg]
 simpa using hv) : p := h
theorem z87 {p : Prop} (h : p := by exact hHeld.grown hg3 hHeld.size (fun k hk => (hown2.lt k hk).1)) : p := h
theorem z72 {p : Prop} (h : p := by exact hHeld.trans (hbel0.mono hHeld.size)) : p := h
theorem z71 {p : Prop} (h : p := by exact hHeld.alloc hHeld.size _) : p := h
theorem z61 {p : Prop} (h : p := by (intro w hSw; go_simp; try with_reducible rfl)) : p := h
theorem y63 {p q : Prop} (k : q) (h : PLift q -> p := by
 intro kk
 refine wp_region_noPanic ?_
 refine wp_region_held_drew (S := fun W' => Below W.drew.heap.size W.drew W') (by kernel_rfl) (bh _ _) (fun hHeld => ?_)
 revert hHeld
 exact kk.down) : p := h ⟨k⟩
end Go.Proofs.YthphepeniaemoaaGreat
