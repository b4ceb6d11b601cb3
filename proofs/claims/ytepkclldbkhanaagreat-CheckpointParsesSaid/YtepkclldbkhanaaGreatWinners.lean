/- A canon that is read whole has the bytes that it is written by. Conditions: none. -/
import Derived.Test.YtepkclldbkhanaaGreatCanL
import Derived.Test.YtepkclldbkhanaaGreatCkA
import Derived.Test.YtepkclldbkhanaaGreatDot
import Derived.Test.YtepkclldbkhanaaGreatHost
import Derived.Lib.Bytealg
import Derived.Test.YtepkclldbkhanaaGreatEq
import Derived.Sort.Walk0
import Derived.Test.YtepkclldbkhanaaGreatSrtK
import Derived.Test.YtepkclldbkhanaaGreatWin
set_option linter.unusedSimpArgs false
set_option linter.unusedVariables false
set_option linter.unnecessarySimpa false
set_option maxHeartbeats 16000000
set_option maxRecDepth 100000
open Go.Proofs.Tryz
namespace Go.Proofs.YtepkclldbkhanaaGreat
open Go.RowKit
/-- what is read whole has the bytes that it is written by -/
theorem FV {l:Bytes} {r:Rd} {c:List Dot} {K:List Ev} {d:List Dot} (hx:jL l=(r,c,K,d)) (he:eX r=0):l=lC c++aS K.length++pY K++aS d.length++eG d∧c.length≤4096∧d.length≤65536:=by
 have hcl:=uz ⟨l,0⟩;obtain ⟨r1,mk,h1⟩:∃ x y,fC ⟨l,0⟩=(x,y):=⟨_,_,rfl⟩;obtain ⟨r2,N,h2⟩:∃ x y,bg 2048 r1=(x,y):=⟨_,_,rfl⟩;obtain ⟨r3,evs,h3⟩:∃ x y,kz N r2=(x,y):=⟨_,_,rfl⟩;have f4:=bf 65536 r3;obtain ⟨r4,D,h4⟩:∃ x y,bg 65536 r3=(x,y):=⟨_,_,rfl⟩;obtain ⟨r5,ds,h5⟩:∃ x y,bT D r4=(x,y):=⟨_,_,rfl⟩;have hxx:jL l=(r5,mk,evs,ds):=by unfold jL;simp only [h1,h2,h3,h4,h5]
 rw [hxx] at hx;simp only [Prod.mk.injEq] at hx;obtain ⟨rfl,rfl,rfl,rfl⟩:=hx;rw [h1] at hcl;rw [h4] at f4;simp only at hcl f4;have h50:r5.e=0∧r5.b=[]:=by
  unfold eX at he;by_cases h:r5.e=0
  ·rw [if_pos h] at he
   by_cases hb:0<r5.b.length
   ·rw [if_pos hb] at he;cases he
   ·exact ⟨h,List.length_eq_zero_iff.1 (by omega)⟩
  ·rw [if_neg h] at he;exact absurd he h
 obtain ⟨e4,l5,b4⟩:=qB D h5 h50.1;obtain ⟨e3,b3⟩:=fB h4 e4;obtain ⟨e2,l3,b2⟩:=DN N h3 e3;obtain ⟨e1,b1⟩:=fB h2 e2;obtain ⟨_,b0⟩:=Gz h1 e1;refine ⟨?_,hcl,by rw [l5];exact f4.2⟩;show (⟨l,0⟩:Rd).b=_;rw [b0,b1,b2,b3,b4,h50.2,l5,l3,List.append_nil];simp only [List.append_assoc]
def BX (a b:ByteArray):Int:=Lib.compareBytes a.data.toList b.data.toList
theorem Dt (a b:ByteArray) (w:World) :
 Calls prog 228 #[.string a,.string b] w fun e w'=>e=.returned (.int .i64 (BX a b))∧w=w':=by
 go_enter func228,ntmps228;go_wp2;rw [run_callFunc_extern func255 (by kernel_rfl) (by kernel_rfl) (by kernel_rfl) (e:=Extern.BytealgCompare.compare) (by kernel_rfl),Lib.run_compareString];simp only [Result.andThen];rw [Oper.upon_value];go_wp2;go_ret;exact ⟨rfl,rfl⟩
theorem zD (a b:ByteArray) (w:World) :
 Calls prog 195 #[.string a,.string b] w fun e w'=>e=.returned (.int .i64 (BX a b))∧w=w':=by
 go_enter func195,ntmps195;go_wp2_with (go_at_call 228;refine (Dt _ _ _).mono ?_;rintro e w1 ⟨rfl,rfl⟩)
 go_ret;exact ⟨rfl,rfl⟩
theorem Rf (a b c:Int) (A:Nat) (w:World) (h0:w.cell? ⟨A,0,none⟩=some (.int .i64 a)) (h1:w.cell? ⟨A,1,none⟩=some (.int .i64 b)) (h2:w.cell? ⟨A,2,none⟩=some (.int .i64 c)) :
 Calls prog 168 #[.slice (some ⟨A,0,none⟩) 3 3] w fun e w'=>e=.returned (.int .i64 (orI a (orI b c)))∧w=w':=by
 go_enter func168,ntmps168;go_wp2;go_rounds 4
 all_goals
  go_ret;exact ⟨bW (by unfold orI;simp_all),rfl⟩
def KO (a b:Key):Int:=orI (BX a.name b.name) (orI (BX a.domain b.domain) (BX a.path b.path))
def fZ (a b:Key):Bool:=decide (KO a b<0)
theorem LW:∀ a b:List UInt8,(Lib.compareBytes a b<0)↔a<b
 | [],[]=>by simp [Lib.compareBytes]
 | [],y :: b=>by simp [Lib.compareBytes]
 | x :: a,[]=>by simp [Lib.compareBytes]
 | x :: a,y :: b=>by
   unfold Lib.compareBytes;rw [List.cons_lt_cons_iff];by_cases h:x<y
   ·rw [if_pos h]
    simp [h]
   ·rw [if_neg h]
    by_cases h2:y<x
    ·rw [if_pos h2]
     have hne:x≠y:=fun e=>by rw [e] at h2;exact UInt8.lt_irrefl y h2
     simp [h,hne]
    ·rw [if_neg h2]
     have he:x=y:=UInt8.le_antisymm (UInt8.not_lt.1 h2) (UInt8.not_lt.1 h);rw [LW a b];simp [he]
theorem LX:∀ a b:List UInt8,Lib.compareBytes a b=0↔a=b
 | [],[]=>by simp [Lib.compareBytes]
 | [],y :: b=>by simp [Lib.compareBytes]
 | x :: a,[]=>by simp [Lib.compareBytes]
 | x :: a,y :: b=>by
   unfold Lib.compareBytes;by_cases h:x<y
   ·rw [if_pos h]
    have hne:x≠y:=fun e=>by rw [e] at h;exact UInt8.lt_irrefl y h
    simp [hne]
   ·rw [if_neg h]
    by_cases h2:y<x
    ·rw [if_pos h2]
     have hne:x≠y:=fun e=>by rw [e] at h2;exact UInt8.lt_irrefl y h2
     simp [hne]
    ·rw [if_neg h2]
     have he:x=y:=UInt8.le_antisymm (UInt8.not_lt.1 h2) (UInt8.not_lt.1 h);rw [LX a b];simp [he]
theorem FQ (a b:ByteArray):BX a b<0↔bl a<bl b:=LW _ _
theorem zt (a b:ByteArray):BX a b=0↔a=b:=by
 unfold BX;rw [LX];exact ⟨fun h=>kY h,fun h=>by rw [h]⟩
theorem vN (a b:Key):fZ a b=if a.name=b.name then (if a.domain=b.domain then decide (bl a.path<bl b.path) else decide (bl a.domain<bl b.domain)) else decide (bl a.name<bl b.name):=by
 unfold fZ KO orI;by_cases h1:a.name=b.name
 ·rw [if_pos h1,if_pos ((zt _ _).2 h1)]
  by_cases h2:a.domain=b.domain
  ·rw [if_pos h2,if_pos ((zt _ _).2 h2)]
   exact decide_eq_decide.2 (FQ _ _)
  ·rw [if_neg h2,if_neg (fun e=>h2 ((zt _ _).1 e))]
   exact decide_eq_decide.2 (FQ _ _)
 ·rw [if_neg h1,if_neg (fun e=>h1 ((zt _ _).1 e))]
  exact decide_eq_decide.2 (FQ _ _)
theorem EH (a b:ByteArray):Op.bytesLess a.toList b.toList=decide (bl a<bl b):=by
 rw [bytesLess_eq,ByteArray.toList_eq,ByteArray.toList_eq]
theorem vJ (a:Key):fZ a a=false:=by
 rw [vN,if_pos rfl,if_pos rfl];exact decide_eq_false (List.lt_irrefl _)
theorem z129 {p : Prop} (h : p := by
 rw [decide_eq_true_eq] at h k
 have h3 := tr h k
 rw [if_neg (fun e => by rw [e] at h3; exact List.lt_irrefl _ h3)]
 exact decide_eq_true h3) : p := h
theorem oM {a b c:Key} (h:fZ a b=true) (k:fZ b c=true):fZ a c=true:=by
 rw [vN] at h k ⊢;have tr:∀ {x y z:List UInt8},x<y→y<z→x<z:=fun h1 h2=>List.lt_trans h1 h2;by_cases h1:a.name=b.name
 ·rw [if_pos h1] at h
  by_cases k1:b.name=c.name
  ·rw [if_pos k1] at k
   rw [if_pos (h1.trans k1)];by_cases h2:a.domain=b.domain
   ·rw [if_pos h2] at h
    by_cases k2:b.domain=c.domain
    ·rw [if_pos k2] at k
     rw [if_pos (h2.trans k2)];rw [decide_eq_true_eq] at h k ⊢;exact tr h k
    ·rw [if_neg k2] at k
     rw [if_neg (by rw [h2];exact k2),h2];exact k
   ·rw [if_neg h2] at h
    by_cases k2:b.domain=c.domain
    ·rw [if_neg (by rw [← k2];exact h2),← k2]
     exact h
    ·rw [if_neg k2] at k
     exact z129
  ·rw [if_neg k1] at k
   rw [if_neg (by rw [h1];exact k1),h1];exact k
 ·rw [if_neg h1] at h
  by_cases k1:b.name=c.name
  ·rw [if_neg (by rw [← k1];exact h1),← k1]
   exact h
  ·rw [if_neg k1] at k
   exact z129
theorem Ci {x y:ByteArray} (h:x≠y) (k:¬ bl x<bl y):bl y<bl x :=
 Classical.byContradiction fun h2=>h (kY (List.le_antisymm (List.not_lt.1 h2) (List.not_lt.1 k)))
theorem rD {a b:Key} (h:a≠b) (k:fZ a b=false):fZ b a=true:=by
 rw [vN] at k ⊢;by_cases h1:a.name=b.name
 ·rw [if_pos h1] at k
  rw [if_pos h1.symm];by_cases h2:a.domain=b.domain
  ·rw [if_pos h2,decide_eq_false_iff_not] at k
   rw [if_pos h2.symm];exact decide_eq_true (Ci (fun e=>h (by cases a;cases b;simp_all)) k)
  ·rw [if_neg h2,decide_eq_false_iff_not] at k
   rw [if_neg (fun e=>h2 e.symm)];exact decide_eq_true (Ci h2 k)
 ·rw [if_neg h1,decide_eq_false_iff_not] at k
  rw [if_neg (fun e=>h1 e.symm)];exact decide_eq_true (Ci h1 k)
theorem z80 {p : Prop} (h : p := by
 go_enter func132, ntmps132
 go_wp2
 go_ret
 exact ⟨aJ (Eq.trans (decide_eq_decide.2 Iff.rfl) HL.out.symm), by go_grown⟩) : p := h
theorem EW (a b:Key) (w:World) :
 Calls prog 132 #[.agg #[.string a.name,.string a.domain,.string a.path],.agg #[.string b.name,.string b.domain,.string b.path]] w fun e w'=>e=.returned (.bool (fZ a b))∧Below w.heap.size w w':=by
 have hL:=vN a b;have hl1:=EH a.name b.name;have hl2:=EH a.domain b.domain;have hl3:=EH a.path b.path;by_cases h1:a.name=b.name
 ·rw [if_pos h1] at hL
  have hn1:(a.name.toList == b.name.toList)=true:=by rw [mF];exact decide_eq_true (by rw [h1])
  by_cases h2:a.domain=b.domain
  ·rw [if_pos h2] at hL
   have hn2:(a.domain.toList == b.domain.toList)=true:=by rw [mF];exact decide_eq_true (by rw [h2])
   have HL:=Lib.hid hL;clear hL h1 h2
   exact z80
  ·rw [if_neg h2] at hL
   have hn2:(a.domain.toList == b.domain.toList)=false:=by rw [mF];exact decide_eq_false fun e=>h2 (kY e)
   have HL:=Lib.hid hL;clear hL h1 h2
   exact z80
 ·rw [if_neg h1] at hL
  have hn1:(a.name.toList == b.name.toList)=false:=by rw [mF];exact decide_eq_false fun e=>h1 (kY e)
  have HL:=Lib.hid hL;clear hL h1
  exact z80
end Go.Proofs.YtepkclldbkhanaaGreat
/- A slice of keys under slices.SortFunc, by match.Less. Conditions: at most 2^30 of them. -/
namespace Go.Proofs.YtepkclldbkhanaaGreat
open Go.RowKit Go.Shelf
theorem Rk (a b:Key) (w:World) :
 Calls prog 161 #[.agg #[.string a.name,.string a.domain,.string a.path],.agg #[.string b.name,.string b.domain,.string b.path]] w fun e w'=>e=.returned (.int .i64 (KO a b))∧Up w w':=by
 go_enter func161,ntmps161;go_wp2;go_region_held3 (fun w'=>w'.cell? ⟨w.heap.size,0,none⟩=some (.string a.name)∧w'.cell? ⟨w.heap.size,1,none⟩=some (.string a.domain)∧w'.cell? ⟨w.heap.size,2,none⟩=some (.string a.path)∧w'.cell? ⟨w.heap.size+1,0,none⟩=some (.string b.name)∧w'.cell? ⟨w.heap.size+1,1,none⟩=some (.string b.domain)∧w'.cell? ⟨w.heap.size+1,2,none⟩=some (.string b.path)) (go_keep)
  (first
   | (go_at_call 195;refine (zD _ _ _).mono ?_;rintro e w1 ⟨rfl,rfl⟩)
   | (go_at_call 168;go_call Rf (BX a.name b.name) (BX a.domain b.domain) (BX a.path b.path) as e w1 ⟨rfl,rfl⟩))
 go_wp2;go_ret;exact ⟨rfl,by go_grown,Nat.le_succ _⟩
theorem J3 (a b:Key) (w:World) :
 Calls prog 129 #[.agg #[.string a.name,.string a.domain,.string a.path],.agg #[.string b.name,.string b.domain,.string b.path]] w fun e w'=>e=.returned (.bool (fZ a b))∧Up w w':=by
 go_enter func129,ntmps129;go_wp2_with (go_at_call 161;refine (Rk a b _).mono ?_;rintro e w1 ⟨rfl,hb,hd⟩)
 go_ret;exact ⟨rfl,below2 (by go_grown) hb,hd⟩
/-- the closure of Winners -/
def ut (a b:Key):Int:=if fZ a b=true then -1 else 1
theorem Es (a b:Key):decide (ut a b<0)=fZ a b:=by
 unfold ut
 cases fZ a b <;> rfl
theorem MJ (a b:Key) (w:World) :
 Calls prog 128 #[.agg #[.string a.name,.string a.domain,.string a.path],.agg #[.string b.name,.string b.domain,.string b.path]] w fun e w'=>e=.returned (.int .i64 (ut a b))∧Up w w':=by
 have hK:=fun (X:World)=>J3 a b X;have HC:Hid (ut a b=if fZ a b=true then -1 else 1):=rfl;generalize ut a b=c at *
 cases hk:fZ a b with
 | true =>
   rw [hk] at hK;have HE:Hid (c = -1):=by unfold Hid;rw [HC.out,hk];rfl
   have HK:=Lib.hid hK;clear hK hk HC;go_enter func128,ntmps128;go_wp2_with (go_at_call 129;(with_reducible refine (HK.out _).mono ?_);rintro e w1 ⟨rfl,hb,hd⟩)
   go_ret;exact ⟨by rw [HE.out];rfl,below2 (by go_grown) hb,hd⟩
 | false =>
   rw [hk] at hK;have HE:Hid (c=1):=by unfold Hid;rw [HC.out,hk];rfl
   have HK:=Lib.hid hK;clear hK hk HC;go_enter func128,ntmps128;go_wp2_with (go_at_call 129;(with_reducible refine (HK.out _).mono ?_);rintro e w1 ⟨rfl,hb,hd⟩)
   go_ret;exact ⟨by rw [HE.out];rfl,below2 (by go_grown) hb,hd⟩
instance:Inhabited Key:=⟨⟨ByteArray.empty,ByteArray.empty,ByteArray.empty⟩⟩
def BQ (k:Key):List Value:=[.string k.name,.string k.domain,.string k.path]
def ji (l:List Key):List Value:=l.flatMap fun k=>[.string k.name,.string k.domain,.string k.path]
theorem TE:Go.Sort.SWO (ltOf ut):=by
 have e:∀ x y,ltOf ut x y=fZ x y:=fun x y=>Es x y;refine ⟨fun x=>by rw [e];exact vJ x,fun x y z h k=>?_,fun x y z h k=>?_⟩
 ·rw [e] at h k ⊢;exact oM h k
 ·rw [e] at h k ⊢
  cases hh:fZ x z with
  | false=>rfl
  | true =>
    by_cases hxy:x=y
    ·subst hxy;rw [k] at hh;cases hh
    ·have h1:=rD hxy h
     have h2:=oM h1 hh;rw [k] at h2;cases h2
theorem KL (blk off size:Nat) (w:World):CmpLays prog 128 #[] BQ 3 ut blk off size w :=
 fun _ _ _ _ x y=>(MJ x y _).mono fun _ _ ⟨he,hu⟩=>⟨he,hu.grown⟩
theorem Pj (base:Nat) (v:Value) (ks:List Key) (w:World) (hown:w.ownsRow base 123 3 v ks.length (ji ks)) (hl:ks.length≤1073741824) :
 Calls prog 127 #[v,.func (.func 128) #[] #[]] w fun e w'=>e=.returned (.tuple #[])∧∃ ts:List Key,ts.Perm ks∧Go.Sort.SortedIn fZ 0 ts.toArray.size ts.toArray∧w'.ownsRow base 123 3 v ks.length (ji ts)∧Fr (fun k=>v.ownBlock=some k) w w':=by
 rcases hown.2 with ⟨rfl,hz⟩ | ⟨g,cap,cur,rfl,hbase,hgb,r1,r2,r3,r4⟩
 ·obtain rfl:ks=[]:=List.eq_nil_of_length_eq_zero hz
  refine (AnyF.slices_SortFunc_none Tryz.sortKey none 0 _ w).mono ?_
  exact z100
 ·have hH:Go.Sort.HoldsK BQ 3 w g 0 ks.toArray:=uI (k:=3) (fun _=>rfl) (by decide) hgb r4
  have hgl:g<w.heap.size:=(Array.getElem?_eq_some_iff.1 hgb).1;have hc:=AnyQ.slices_SortFunc Tryz.sortKey 3 Tryz.isAgg123 Tryz.sizeOf123 BQ (fun _=>rfl) (fun x v hv=>by simp [BQ] at hv;rcases hv with rfl | rfl | rfl <;> rfl) ut TE 128 #[] g 0 cap ks.toArray w (enters_of func128 (by kernel_rfl) rfl) (KL g 0 _ w) hH hgl (by simp;omega);rw [List.size_toArray] at hc;refine hc.mono ?_;rintro e w' ⟨rfl,d',n,os,⟨p1,p2,p3⟩,hs,rfl⟩
  refine y52 ?_
  intro hd hsz hperm
  refine ⟨rfl,d'.toList,hperm,?_,?_,?_⟩
  ·have e:ltOf ut=fZ:=by funext x y;exact Es x y
   rw [e] at hs;simpa [hsz] using hs
  ·have h9:=o5 (enc:=BQ) (k:=3) (ts:=d'.toList) (ss:=ks) (n:=n) (os:=os) (fun _=>rfl) (by decide) (by simpa using hsz) hbase hgb r1 r2 r3
   rw [← hd] at h9;exact h9
  ·exact (BD d').mono fun k _ hk=>by subst hk;rfl
theorem Tryz.infoKey:(prog.info? 123).map (fun i=>(i.zero,i.size,i.bytes))=some (some (.agg #[.string ByteArray.empty,.string ByteArray.empty,.string ByteArray.empty]),3,48):=by kernel_rfl
theorem FC (l:List Key) (k:Key):ji (l++[k])=ji l++[.string k.name,.string k.domain,.string k.path]:=by simp [ji]
theorem yl:∀ (l:List Key) (i:Nat) (h:i<l.length),(ji l)[i * 3]?=some (.string l[i].name)∧(ji l)[i * 3+1]?=some (.string l[i].domain)∧(ji l)[i * 3+2]?=some (.string l[i].path)
 | [],i,h=>by simp at h
 | d :: l,0,_=>by simp [ji]
 | d :: l,i+1,h=>by
   have ih:=yl l i (by simpa using h);have e:ji (d :: l)=[.string d.name,.string d.domain,.string d.path]++ji l:=rfl
   exact z54
theorem G8 {w:World} {a:Option Addr} {l:List Key} (h:CellsIn w a (ji l)) {k:Nat} (hk:k<l.length) :
 ∃ A off,a=some ⟨A,off,none⟩∧w.cell? ⟨A,off+k * 3,none⟩=some (.string l[k].name)∧w.cell? ⟨A,off+k * 3+1,none⟩=some (.string l[k].domain)∧w.cell? ⟨A,off+k * 3+2,none⟩=some (.string l[k].path):=by
 obtain ⟨g0,g1,g2⟩:=yl l k hk;rcases h with h | ⟨A,off,h1,h2⟩
 ·rw [h] at g0;simp at g0
 ·exact ⟨A,off,h1,h2 _ _ g0,h2 _ _ g1,h2 _ _ g2⟩
theorem ATab.keyW {w:World} {b:Nat} {A:List (Key×Nat)} (h:ATab w b A):∀ k∈A.map (·.1),KeyW k:=fun k hk=>by
 obtain ⟨p,hp,rfl⟩:=List.mem_map.1 hk;exact h.okk p hp
def WB (s:MS) (w:World) (e:Ending) (w':World):Prop :=
 ∃ (ts:List Key) (a:Option Addr) (ls:List bH) (cap:Nat),e=.returned (.slice a ls.length cap)∧EvsIn w' a ls∧aU ls=ts.map (fun k=>(fP (keyOfS s k)).1)∧ts.Perm (s.A.map (·.1))∧(ts.Pairwise fun x y=>fZ x y=true)∧Below w.heap.size w w'
theorem Fj {m:Nat} {b:MB} {s:MS} (w:World) (h:MpIn w m b s) (hi0:MInv s) :
 Calls prog 81 #[.pointer (some ⟨m,0,none⟩)] w (WB s w):=by
 obtain ⟨i0,hi,hz0,hz1,hz2⟩:=info_parts Tryz.infoKey;obtain ⟨c0,c1,c2,c3⟩:=eu h.cell;have htab:=h.alive;have HH:=Lib.hid h;have HKW:=Lib.hid htab.keyW;have HND:Hid ((s.A.map (·.1)).Nodup):=List.pairwise_map.2 htab.apart;have HI:=Lib.hid hi0;obtain ⟨iE,hiE,hE0,hE1,hE2⟩:=info_parts Tryz.infoEv;have HBK:=Lib.hid (h.low (ku b s.A));have hbd:=(hi0.bounds h).1;clear c0 c2 c3 h;go_enter func81,ntmps81;go_wp2_with (at_range;refine iL Ba _ rfl _ 94 rfl 95 underlying94 b.ab rfl htab ?_;intro w0 OE hrg0 hb0 hs0)
 go_frame
 go_loopw [3] (fun v wr=>∃ rest cnt ks,TabIt prog 123 iw KeyW JW wr b.ab w.heap.size s.A rest cnt∧(ks++rest.map (·.1)).Perm (s.A.map (·.1))∧wr.ownsRow (w.heap.size+1) 123 3 v ks.length (ji ks)∧Below w.heap.size w wr) (fun _ wr=>wr.rangeLeft b.ab w.heap.size)
 case atStart=>exact ⟨s.A,_,[],hrg0,List.Perm.refl _,World.ownsRow_nil _ _ _ _,hb0⟩
 case round =>
  obtain ⟨rest, cnt, ks, hrg, hC, hown, hbw⟩ := hrel
  have hzw : w.heap.size + 1 ≤ wr.heap.size := by have := hrg.lt; omega
  have HLE := Lib.hid hrg.left_eq
  go_wp2_with (at_next;refine iC Ba _ rfl _ rfl b.ab w.heap.size cnt rfl hrg ?_ ?_)
  rotate_left
  ·intro x n rest' w2 cnt2 hperm hpm hrg2 hlt hg2 hs2 hen
   have hlen:ks.length<s.A.length:=by
        exact z77
   have HC2:Hid (((ks++[x])++rest'.map (·.1)).Perm (s.A.map (·.1))):=by
        exact z32
   have hNlt:=hrg.lt
   refine y20 ?_
   intro hown2 hb2
   have hsz2:=hg2.size;clear hs2 hown hrg hg2;go_upto_region 7 with fail
   refine au (fun W3 hW3=>?_);have hb3:Below w2.heap.size w2 W3:=by rw [hW3.out];go_grown
   have y0:W3.cell? ⟨w2.heap.size,0,none⟩=some (.string x.name):=by rw [hW3.out];go_simp
   have y1:W3.cell? ⟨w2.heap.size,1,none⟩=some (.string x.domain):=by rw [hW3.out];go_simp
   have y2:W3.cell? ⟨w2.heap.size,2,none⟩=some (.string x.path):=by rw [hW3.out];go_simp
   clear hW3;have hown3:=ownsRow_below hown2 hb3;have hrg3:=hrg2.kept hb3;have hsz3:=hb3.size;have hbw3:Below w.heap.size w W3:=hb2.trans (hb3.mono hb2.size);clear hown2 hrg2 hb2;go_wp2_with (at_builtin;refine wpList_append_own _ rfl _ _ 212 rfl (w.heap.size+1) 123 i0 (.agg #[.string ByteArray.empty,.string ByteArray.empty,.string ByteArray.empty]) 3 48 underlying212 hi hz0 hz1 hz2 rfl (by decide) _ _ _ rfl (hown3.alloc _) ⟨W3.heap.size,0,none⟩ 1 1 [.string x.name,.string x.domain,.string x.path] rfl rfl (kP _ _ _) (by simp [Value.oneCell']) (by unfold maxLen;omega) (by omega) (by simp;omega) ?_;intro v2 w4 hown4 hgrow _)
   have hb4:Below W3.heap.size W3 (W3.alloc (.cells #[.string x.name,.string x.domain,.string x.path] 123)):=(Below.refl _ _).alloc (Nat.le_refl _) _;have hrg4:TabIt prog 123 iw KeyW JW w4 b.ab w.heap.size s.A rest' cnt2:=by
        have h4:=hrg3.kept hb4;have hlo:b.ab<w.heap.size+1:=by have:=HBK.out;omega
        exact z47
   have HZ:=Lib.hid (And.intro (show w4.ownsRow (w.heap.size+1) 123 3 v2 (ks++[x]).length (ji (ks++[x])) by rw [FC,List.length_append];exact hown4) (And.intro hrg4 ((hbw3.trans (hb4.mono hbw3.size)).grown hgrow (by simp;omega) (fun j hj=>by have:=(hown3.lt j hj).1;omega))))
   clear hown4 hrg4 hgrow hown3 hrg3 y0 y1 y2
   go_wp2
   go_roundw
   case rel => exact ⟨rest', cnt2, ks ++ [x], HZ.out.2.1, HC2.out, HZ.out.1, HZ.out.2.2⟩
   case measure => rw [HZ.out.2.1.left_eq, HLE.out]; exact hlt
  ·intro hr0
   subst hr0;have hperm:ks.Perm (s.A.map (·.1)):=by simpa using hC
   have hkl:ks.length≤1073741824:=by have:=hperm.length_eq;simp at this;omega
   obtain ⟨v0,hv0⟩:∃ v0,v0=u3:=⟨_,rfl⟩;rw [← hv0] at hown ⊢;clear hv0 hrg hC HLE;have HS:=Lib.hid (Pj (w.heap.size+1) v0 ks wr hown hkl);have HP:=Lib.hid hperm;have HO:=Lib.hid hown;clear hown hperm;go_upto_region 9 with (go_at_call 127;(with_reducible refine HS.out.mono ?_);rintro e w1 ⟨rfl,ts,hts,hsrt,P6,Vz⟩)
   have hb1:Below w.heap.size w w1:=hbw.trans (Vz.below hbw.size (fun k hk=>by have:=(HO.out.lt k hk).1;omega));have htl:ts.length=ks.length:=hts.length_eq;rw [← htl] at P6;obtain ⟨aT,cT,rfl,WT,_⟩:=iV P6;have hpm:Hid (ts.Perm (s.A.map (·.1))):=hts.trans HP.out;have HSr:Hid (ts.Pairwise fun x y=>fZ x y=true):=by
        have h5:=oZ (lt:=fZ) (fun x y h k=>rD h k) (d:=ts.toArray) hsrt (by
         simp only [];exact (hpm.out.nodup_iff).2 HND.out)
        unfold Hid;simpa using h5
   have htk:ts.length≤1073741824:=by omega
   have hm1:=HH.out.kept_w hb1;clear P6 Vz hsrt hts HS HO HP hkl hbw htl;go_wp2;go_loopw [29,5] (fun i v wq=>∃ (k:Nat) (ls:List bH),i=.int .i64 k∧k≤ts.length∧EvsGr w1.heap.size v ls wq∧aU ls=(ts.take k).map (fun k=>(fP (keyOfS s k)).1)∧Below w1.heap.size w1 wq) (fun i _ _=>ts.length - (intOf i).toNat)
   case atStart=>exact ⟨0,[],rfl,Nat.zero_le _,EvsGr.nil _ _,rfl,Below.refl _ _⟩
   case round =>
        obtain ⟨k,ls,rfl,hk,hgr,hev,hbr⟩:=hrel;have HEV:=Lib.hid hev;clear hev;by_cases hlt:k<ts.length
        ·obtain ⟨A,off,rfl,c0,c1,c2⟩:=G8 (WT.kept hbr) hlt
         have hkw:=HKW.out _ (hpm.out.mem_iff.1 (List.getElem_mem hlt));have hzr:=hbr.size;have hr:=hm1.kept_w hbr;have HT:Hid ((ts.take (k+1)).map (fun k=>(fP (keyOfS s k)).1)=(ts.take k).map (fun k=>(fP (keyOfS s k)).1)++[(fP (keyOfS s ts[k])).1]):=by
          unfold Hid;rw [List.take_add_one,List.getElem?_eq_getElem hlt,List.map_append];rfl
         have HLT:=Lib.hid hlt;have hlk:ls.length=k:=by
          exact z145
         have hkl:k≤1073741824:=by omega
         generalize ts[k]=x at *;have HW:=Lib.hid (fun (X:World) (h:MpIn X m b s)=>Fp x hkw X h HI.out);go_upto_region 13 with fail
         refine au (fun V hV=>?_);have hbV:Below wr.heap.size wr V:=by rw [hV.out];go_grown
         have y0:V.cell? ⟨wr.heap.size,0,none⟩=some (.string x.name):=by rw [hV.out];go_simp
         have y1:V.cell? ⟨wr.heap.size,1,none⟩=some (.string x.domain):=by rw [hV.out];go_simp
         have y2:V.cell? ⟨wr.heap.size,2,none⟩=some (.string x.path):=by rw [hV.out];go_simp
         have hmV:=hr.kept_w hbV;have hgV:=hgr.kept hbV;have Rz:Below w1.heap.size w1 V:=hbr.trans (hbV.mono hzr);clear hV hbV hr hgr c0 c1 c2 hkw;generalize (fP (keyOfS s x))=R at *;go_upto_region 14 with (first
          | (go_at_call 130;(with_reducible refine (HW.out _ hmV).mono ?_);rintro v w4 ⟨aw,cw,rfl,hdw,htw,hb4⟩)
          | (refine aB 127 _ _ _ (ag R.1 aw cw).toArray rfl rfl (by kernel_rfl) rfl (by kernel_rfl) ?_))
         refine au (fun V5 hV5=>?_);have hbA:Below w4.heap.size w4 V5:=by rw [hV5.out];exact (Below.refl w4.heap.size w4).alloc (Nat.le_refl _) _
         have hR5:V5.rangeAt w4.heap.size 0 (ag R.1 aw cw):=by rw [hV5.out];exact eP R.1 aw cw w4 127
         have hgr5:=(hgV.kept hb4).kept hbA;have hd5:=hdw.kept hbA;have ht5:=htw.kept hbA;have hb5:Below w1.heap.size w1 V5:=(Rz.trans (hb4.mono Rz.size)).trans (hbA.mono (Nat.le_trans Rz.size hb4.size));generalize w4.heap.size=B4 at *;have HR:=Lib.hid (And.intro hd5 (And.intro ht5 (And.intro hgr5 hb5)));have hown5:=hgr5.own;have hz5:=hb5.size;clear hV5 hbA hgV hdw htw hb4 Rz hmV y0 y1 y2 hd5 ht5 hgr5 hb5;go_wp2_with (first
          | ((with_reducible refine bC _ B4 0 R.1 aw cw hR5 ?_ rfl ?_);exact rfl)
          | (refine wpList_buildOne rfl 33 127 _ rfl (ag R.1 aw cw).toArray 19 rfl rfl (by decide) (by decide) underlying33 (by kernel_rfl) (by kernel_rfl) ?_)
          | (at_builtin;go_loud (refine wpList_append_own_at _ rfl _ _ 33 rfl w1.heap.size 127 iE (.agg (ag ev0 none 0).toArray) 19 176 underlying33 hiE hE0 hE1 hE2 rfl (by decide) _ _ _ rfl (hown5.alloc _) ⟨V5.heap.size,0,none⟩ 1 1 (ag R.1 aw cw) rfl rfl (tu V5 R.1 aw cw _) (dR _ _ _) (by unfold maxLen;omega) (by omega) (by simp;omega) ?_)))
         intro v' wf gZ hgrow _ _;have hal:Below V5.heap.size V5 (V5.alloc (Obj.cells (ag R.1 aw cw).toArray 127)):=(Below.refl _ _).alloc (Nat.le_refl _) _;obtain ⟨hd5,ht5,hgr5,hb5⟩:=HR.out;have hgN:=EvsGr.app (x:=(R.1,aw,cw)) (hgr5.kept hal) (show wf.ownsRow w1.heap.size 127 19 v' (ls.length+1) (aV ls++lD (R.1,aw,cw)) by rw [hlk];exact gZ) hgrow (hd5.kept hal) (ht5.kept hal);have hbF:Below w1.heap.size w1 wf:=(hb5.trans (hal.mono hz5)).grown hgrow (by have:=hal.size;omega) (fun j hj=>(hown5.lt j hj).1);have HZ:=Lib.hid (And.intro hgN hbF);clear hgN hbF gZ hgrow hal hown5 hR5 hd5 ht5 hgr5 hb5;go_wp2;go_roundw
         case rel=>exact ⟨k+1,ls++[(R.1,aw,cw)],by go_num,HLT.out,HZ.out.1,by
          rw [HT.out,← HEV.out];show (ls++[(R.1,aw,cw)]).map (·.1)=_;rw [List.map_append];rfl,HZ.out.2⟩
         case measure => exact z64
        ·obtain rfl:k=ts.length:=by omega
         obtain ⟨aF,cF,rfl,hF⟩:=hgr.evs;have hE:aU ls=ts.map (fun k=>(fP (keyOfS s k)).1):=by
          have hE0:=HEV.out;rwa [List.take_length] at hE0
         have HE:=Lib.hid hE;clear hE hgr;go_wp2;all_goals
          go_ret;exact ⟨ts,aF,ls,cF,rfl,hF,HE.out,hpm.out,HSr.out,hb1.trans (hbr.mono hb1.size)⟩
end Go.Proofs.YtepkclldbkhanaaGreat
