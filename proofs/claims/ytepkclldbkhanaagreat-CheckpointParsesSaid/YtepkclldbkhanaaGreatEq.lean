/- Bytes that grow: slices.Clone, varint.Put. Conditions: at most 2^30 bytes. -/
import Derived.Test.YtepkclldbkhanaaGreatChecked
import Derived.Test.YtepkclldbkhanaaGreatKit
import Derived.Maps.AppendAt
import Derived.Lib.SliceRun
import Derived.Deep.MidRow
set_option linter.unusedSimpArgs false
set_option linter.unusedVariables false
set_option linter.unnecessarySimpa false
set_option maxHeartbeats 16000000
set_option maxRecDepth 100000
open Go.Proofs.Tryz
namespace Go.Proofs.YtepkclldbkhanaaGreat
open Go.RowKit
def aX (l:Bytes):List Value:=l.map fun x=>.int .u8 x.toNat
/-- a slice of bytes reads as l -/
def BytesIn (w:World) (a:Option Addr) (l:Bytes):Prop:=l=[]∨∃ A off,a=some ⟨A,off,none⟩∧BytesAt w A off l
theorem BytesIn.kept {w w':World} {a:Option Addr} {l:Bytes} (h:BytesIn w a l) (hb:Below w.heap.size w w'):BytesIn w' a l:=by
 rcases h with h | ⟨A,off,h1,h2⟩
 ·exact Or.inl h
 ·exact Or.inr ⟨A,off,h1,h2.below hb⟩
theorem dO (l:Bytes):(aX l).length=l.length:=by simp [aX]
theorem eQ (l m:Bytes):aX (l++m)=aX l++aX m:=by simp [aX]
theorem qO (l:Bytes):∀ u∈aX l,u.oneCell'=true:=by
 intro u hu;simp only [aX,List.mem_map] at hu;obtain ⟨x,_,rfl⟩:=hu;rfl
theorem BytesAt.news {w:World} {A off:Nat} {l:Bytes} (h:BytesAt w A off l):∀ j u,(aX l)[j]?=some u→w.cell? ((⟨A,off,none⟩:Addr).add j)=some u:=by
 intro j u hj;obtain ⟨hj',rfl⟩:=List.getElem?_eq_some_iff.1 hj;rw [dO] at hj';rw [Addr.add_mid];rw [h j hj'];simp [aX]
/-- what hands back bytes in memory of its own -/
def lW (l:Bytes) (w:World) (e:Ending) (w':World):Prop :=
 ∃ v,e=.returned v∧w'.ownsRow w.heap.size 5 1 v l.length (aX l)∧Below w.heap.size w w'
theorem Tryz.infoByte:(prog.info? 5).map (fun i=>(i.zero,i.size,i.bytes))=some (some (.int .u8 0),1,1):=by kernel_rfl
theorem lg (a:Option Addr) (cap:Nat) (l:Bytes) (w:World) (hl:l.length≤1073741824) (h:BytesIn w a l) :
 Calls prog 75 #[.slice a l.length cap] w (lW l w):=by
 obtain ⟨i0,hi,hz0,hz1,hz2⟩:=info_parts Tryz.infoByte;have hnil:=fun (W:World)=>Lib.run_eql_slice_nil (P:=prog) W 22 5 a l.length cap 0 0 underlying22
 cases a with
 | none =>
   have hl0:l=[]:=by rcases h with h | ⟨A,off,h1,_⟩;exact h;cases h1
   subst hl0;simp only [List.length_nil] at hnil ⊢;go_enter func75,ntmps75;go_wp2;go_ret;exact ⟨_,rfl,World.ownsRow_nil _ _ _ _,Below.refl _ _⟩
 | some ad =>
   have hnews:∀ j u,(aX l)[j]?=some u→w.cell? (ad.add j)=some u:=by
    rcases h with rfl | ⟨A,off,h1,h2⟩
    ·intro j u hj;simp [aX] at hj
    ·obtain rfl:ad=⟨A,off,none⟩:=by simpa using h1
     exact h2.news
   have HN:Hid (∀ j u,(aX l)[j]?=some u→(w.alloc (Obj.cells #[] 5)).cell? (ad.add j)=some u):=fun j u hj=>kept ((Below.refl _ _).alloc (Nat.le_refl _) _) (hnews j u hj);have hown:(w.alloc (Obj.cells #[] 5)).ownsRow w.heap.size 5 1 (.slice (some ⟨w.heap.size,0,none⟩) 0 0) 0 []:=World.ownsRow_made _ _ _ (Nat.le_refl _) (by decide) rfl;have hbv:=dO l;clear hnews h;go_enter func75,ntmps75;go_wp2_with (at_builtin;go_loud (refine wpList_append_own _ rfl _ _ 22 rfl w.heap.size 5 i0 (.int .u8 0) 1 1 underlying22 hi hz0 hz1 hz2 rfl (by decide) _ _ _ rfl hown ad l.length cap (aX l) rfl (by rw [hbv];simp) HN.out (qO l) (by unfold maxLen;omega) (by omega) (by simp) ?_))
   intro v' w2 hown2 hgrow _;have hb2:=((Below.refl w.heap.size w).alloc (Nat.le_refl _) (Obj.cells #[] 5)).grown hgrow (by simp) (fun k hk=>(hown.lt k hk).1);go_wp2;go_ret;exact ⟨_,rfl,by simpa using hown2,hb2⟩
/-- a number's short bytes -/
def aS (n:Nat):Bytes:=if n<128 then [UInt8.ofNat n] else UInt8.ofNat (n % 128+128) :: aS (n / 128)
theorem jE (n:Nat) (h:n<128):aS n=[UInt8.ofNat n]:=by rw [aS,if_pos h]
theorem nG (n:Nat) (h:¬ n<128):aS n=UInt8.ofNat (n % 128+128) :: aS (n / 128):=by rw [aS,if_neg h]
theorem zJ:∀ (k n:Nat),n<128 ^ (k+1)→(aS n).length≤k+1
 | 0,n,h=>by rw [jE n (by simpa using h)];simp
 | k+1,n,h=>by
   by_cases h1:n<128
   ·rw [jE n h1];simp
   ·rw [nG n h1]
    have:=zJ k (n / 128) (by rw [Nat.pow_succ] at h;omega);simp;omega
theorem bF (n:Nat) (h:n<18446744073709551616):(aS n).length≤10:=zJ 9 n (by omega)
theorem NH:∀ x:Fin 256,bits BinOp.or IntKind.u8 ((x.val:Nat):Int) 128=((x.val % 128+128:Nat):Int):=by decide +kernel
theorem UR (m:Nat):bits BinOp.or IntKind.u8 ((m:Int) % 256) 128=((m % 128+128:Nat):Int):=by
 have h:=NH ⟨m % 256,by omega⟩;simp only at h;rw [show ((m % 256:Nat):Int)=(m:Int) % 256 by omega] at h;rw [h];congr 1;omega
theorem zx (a:Option Addr) (cap:Nat) (l:Bytes) (n:Nat) (w:World) (hl:l.length≤536870912) (hn:n<18446744073709551616) (h:BytesIn w a l) :
 Calls prog 71 #[.slice a l.length cap,.int .u64 n] w (lW (l++aS n) w):=by
 obtain ⟨i0,hi,hz0,hz1,hz2⟩:=info_parts Tryz.infoByte;have HC:=Lib.hid (fun (W:World) (h:BytesIn W a l)=>lg a cap l W (by omega) h);go_enter func71,ntmps71;go_wp2_with (go_at_call 75;refine (HC.out _ h).mono ?_;rintro e w1 ⟨v,rfl,hown,hbel⟩)
 go_loopw [1,5] (fun x out wr=>∃ (m:Nat) (d:Bytes),x=.int .u64 m∧m≤n∧d.length+(aS m).length=l.length+(aS n).length∧l++aS n=d++aS m∧wr.ownsRow w.heap.size 5 1 out d.length (aX d)∧Below w.heap.size w wr) (fun x _ _=>(intOf x).toNat)
 case atStart=>exact ⟨n,l,rfl,Nat.le_refl _,rfl,rfl,hown,hbel⟩
 case round =>
  obtain ⟨m,d,rfl,hm,hlen,hpre,hown2,rG⟩:=hrel;have HP:=Lib.hid hpre;clear hpre;have hzw:=rG.size;by_cases h1:m<128
  ·have hS:=Lib.hid (jE m h1)
   have hl1:d.length≤l.length+10:=by have:=bF n hn;omega
   have hx:Hid (Value.int .u8 (m:Int)=.int .u8 (UInt8.ofNat m).toNat):=by unfold Hid;congr 1;rw [UInt8.toNat_ofNat'];omega
   clear hlen;go_wp2_with (at_builtin;go_loud (refine wpList_append_own _ rfl _ _ 22 rfl w.heap.size 5 i0 (.int .u8 0) 1 1 underlying22 hi hz0 hz1 hz2 rfl (by decide) _ _ _ rfl (hown2.alloc _) ⟨wr.heap.size,0,none⟩ 1 1 [.int .u8 (m:Int)] rfl rfl (cell_one_new _ _ _) (by simp [Value.oneCell']) (by unfold maxLen;omega) (by omega) (by simp;omega) ?_))
   intro v' w2 hown3 hgrow _;have hb3:=(rG.alloc hzw (Obj.cells #[.int .u8 (m:Int)] 5)).grown hgrow (by simp;omega) (fun k hk=>(hown2.lt k hk).1);go_wp2;go_ret;exact ⟨_,rfl,by rw [hx.out] at hown3;rw [HP.out,hS.out];simpa [eQ,aX] using hown3,hb3⟩
  ·have hS:=Lib.hid (nG m h1)
   have hl0:(aS m).length=(aS (m / 128)).length+1:=by rw [hS.out];simp
   have hl1:d.length≤l.length+10:=by have:=bF n hn;omega
   have hl2:(d++[UInt8.ofNat (m % 128+128)]).length+(aS (m / 128)).length=l.length+(aS n).length:=by simp;omega
   have HL2:=Lib.hid hl2;have hbo:=UR m;have hx:Hid (Value.int .u8 ((m:Int) % 128+128)=.int .u8 (UInt8.ofNat (m % 128+128)).toNat):=by unfold Hid;congr 1;rw [UInt8.toNat_ofNat'];omega
   clear hlen hl0 hl2;go_wp2_with (at_builtin;go_loud (refine wpList_append_own _ rfl _ _ 22 rfl w.heap.size 5 i0 (.int .u8 0) 1 1 underlying22 hi hz0 hz1 hz2 rfl (by decide) _ _ _ rfl (hown2.alloc _) ⟨wr.heap.size,0,none⟩ 1 1 [_] rfl rfl (cell_one_new _ _ _) (by simp [Value.oneCell']) (by unfold maxLen;omega) (by omega) (by simp;omega) ?_))
   intro v' w2 hown3 hgrow _;have hb3:=(rG.alloc hzw _).grown hgrow (by simp;omega) (fun k hk=>(hown2.lt k hk).1);go_wp2;go_roundw
   case rel=>exact ⟨m / 128,d++[UInt8.ofNat (m % 128+128)],by go_num,by omega,HL2.out,by rw [HP.out,hS.out];simp,by rw [hx.out] at hown3;simpa [eQ,aX] using hown3,hb3⟩
   case measure => exact z65
theorem jw {P:Program} {t:TypeId} {fs:Array Field} (h:P.underlying t=some (.struct fs)):P.fieldsOf t=fs:=by
 simp [Program.fieldsOf,h]
theorem mJ:prog.eqGuardType prog.depth 119=false:=by kernel_rfl
theorem nM:prog.eqGuardType prog.depth 121=false:=by kernel_rfl
theorem qG:prog.eqGuardType prog.depth 25=false:=by kernel_rfl
theorem AL:prog.eqGuardType prog.depth 123=false:=by kernel_rfl
theorem CX:prog.eqGuardType prog.depth 125=false:=by kernel_rfl
theorem yg:prog.eqGuardType prog.depth 226=false:=by kernel_rfl
theorem xR (a b:Actor):a=b↔a.dev=b.dev∧a.inc=b.inc:=by cases a;cases b;simp
theorem RY (a b:Dot):a=b↔a.a.dev=b.a.dev∧a.a.inc=b.a.inc∧a.seq=b.seq:=by
 obtain ⟨⟨_,_⟩,_⟩:=a;obtain ⟨⟨_,_⟩,_⟩:=b;simp [and_assoc]
theorem MP (a b:Stamp):a=b↔a.wall=b.wall∧a.count=b.count∧a.dev=b.dev:=by cases a;cases b;simp
theorem zC {s t:ByteArray}:s.toList=t.toList↔s=t:=by
 rw [ByteArray.toList_eq,ByteArray.toList_eq];exact ⟨kY,fun h=>by rw [h]⟩
theorem LM (a b:Key):a=b↔a.name.toList=b.name.toList∧a.domain.toList=b.domain.toList∧a.path.toList=b.path.toList:=by cases a;cases b;simp [zC]
theorem Qu (a b:Ck):a=b↔a.value.toList=b.value.toList∧a.hostOnly=b.hostOnly∧a.secure=b.secure∧a.httpOnly=b.httpOnly∧a.persistent=b.persistent∧a.expiry=b.expiry∧a.creation=b.creation∧a.access=b.access:=by cases a;cases b;simp [zC]
theorem wG (W:World) (d:Nat) (a b:Actor):(Op.equalIn (d+2) 119 (.agg #[.int .i64 a.dev,.int .i64 a.inc]) (.agg #[.int .i64 b.dev,.int .i64 b.inc])).run prog W=.ok (decide (a=b)) W:=by
 rw [run_equalIn_agg W (d+1) 119 _ _ (by kernel_rfl) (by kernel_rfl),jw underlying119];simp only [Op.eqFields];go_simp;simp only [xR];repeat' split
 all_goals simp_all
theorem z135 {p : Prop} (h : p := by
 simp only [Op.eqFields]
 have h0 := wG W d a.a b.a
 simp only [xR] at h0
 go_simp
 simp only [RY]
 repeat' split
 all_goals simp_all) : p := h
theorem Ip (W:World) (d:Nat) (a b:Dot):(Op.equalIn (d+3) 121 (.agg #[.int .i64 a.a.dev,.int .i64 a.a.inc,.int .i64 a.seq]) (.agg #[.int .i64 b.a.dev,.int .i64 b.a.inc,.int .i64 b.seq])).run prog W=.ok (decide (a=b)) W:=by
 rw [run_equalIn_agg W (d+2) 121 _ _ (by kernel_rfl) (by kernel_rfl),jw underlying121]
 exact z135
theorem FN (W:World) (d:Nat) (a b:Stamp):(Op.equalIn (d+2) 25 (.agg #[.int .i64 a.wall,.int .i64 a.count,.int .i64 a.dev]) (.agg #[.int .i64 b.wall,.int .i64 b.count,.int .i64 b.dev])).run prog W=.ok (decide (a=b)) W:=by
 rw [run_equalIn_agg W (d+1) 25 _ _ (by kernel_rfl) (by kernel_rfl),jw underlying25];simp only [Op.eqFields];go_simp;simp only [MP];repeat' split
 all_goals simp_all
theorem Tu (W:World) (d:Nat) (a b:Key):(Op.equalIn (d+2) 123 (.agg #[.string a.name,.string a.domain,.string a.path]) (.agg #[.string b.name,.string b.domain,.string b.path])).run prog W=.ok (decide (a=b)) W:=by
 rw [run_equalIn_agg W (d+1) 123 _ _ (by kernel_rfl) (by kernel_rfl),jw underlying123];simp only [Op.eqFields];go_simp;simp only [LM];repeat' split
 all_goals simp_all
theorem Xn (W:World) (d:Nat) (a b:Ck):(Op.equalIn (d+2) 125 (.agg #[.string a.value,.bool a.hostOnly,.bool a.secure,.bool a.httpOnly,.bool a.persistent,.int .i64 a.expiry,.int .i64 a.creation,.int .i64 a.access]) (.agg #[.string b.value,.bool b.hostOnly,.bool b.secure,.bool b.httpOnly,.bool b.persistent,.int .i64 b.expiry,.int .i64 b.creation,.int .i64 b.access])).run prog W=.ok (decide (a=b)) W:=by
 rw [run_equalIn_agg W (d+1) 125 _ _ (by kernel_rfl) (by kernel_rfl),jw underlying125];simp only [Op.eqFields];go_simp;simp only [Qu];repeat' split
 all_goals simp_all
theorem Qr (W:World) (d:Nat) (k l:Key) (a b:Ck):(Op.equalIn (d+3) 226 (.agg #[.string k.name,.string k.domain,.string k.path,.string a.value,.bool a.hostOnly,.bool a.secure,.bool a.httpOnly,.bool a.persistent,.int .i64 a.expiry,.int .i64 a.creation,.int .i64 a.access]) (.agg #[.string l.name,.string l.domain,.string l.path,.string b.value,.bool b.hostOnly,.bool b.secure,.bool b.httpOnly,.bool b.persistent,.int .i64 b.expiry,.int .i64 b.creation,.int .i64 b.access])).run prog W=.ok (decide (k=l) && decide (a=b)) W:=by
 rw [run_equalIn_agg W (d+2) 226 _ _ (by kernel_rfl) (by kernel_rfl),jw underlying226];simp only [Op.eqFields];go_simp;simp only [LM,Qu];repeat' split
 all_goals simp_all
end Go.Proofs.YtepkclldbkhanaaGreat
