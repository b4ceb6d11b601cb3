/- Strings in order: strings.Compare; keys in order: match.Less. Conditions: none. -/
import Derived.Test.YthphepeniaemoaaGreatDot
import Derived.Test.YthphepeniaemoaaGreatHost
import Derived.Lib.Bytealg
import Derived.Test.YthphepeniaemoaaGreatEq
import Derived.Sort.Walk0
import Derived.Test.YthphepeniaemoaaGreatSrtK
import Derived.Test.YthphepeniaemoaaGreatWin
set_option linter.unusedSimpArgs false
set_option linter.unusedVariables false
set_option linter.unnecessarySimpa false
set_option maxHeartbeats 16000000
set_option maxRecDepth 100000
open Go.Proofs.Tryz
namespace Go.Proofs.YthphepeniaemoaaGreat
open Go.RowKit
def Di (a b:ByteArray):Int:=Lib.compareBytes a.data.toList b.data.toList
theorem Eb (a b:ByteArray) (w:World) :
 Calls prog 262 #[.string a,.string b] w fun e w'=>e=.returned (.int .i64 (Di a b))/\w=w':=by
 go_enter func262,ntmps262;go_wp2;rw [run_callFunc_extern func278 (by kernel_rfl) (by kernel_rfl) (by kernel_rfl) (e:=Extern.BytealgCompare.compare) (by kernel_rfl),Lib.run_compareString];simp only [Result.andThen];rw [Oper.upon_value];go_wp2;go_ret;exact ⟨rfl,rfl⟩
theorem Aj (a b:ByteArray) (w:World) :
 Calls prog 231 #[.string a,.string b] w fun e w'=>e=.returned (.int .i64 (Di a b))/\w=w':=by
 go_enter func231,ntmps231;go_wp2_with (go_at_call 262;refine (Eb _ _ _).mono ?_;rintro e w1 ⟨rfl,rfl⟩)
 go_ret;exact ⟨rfl,rfl⟩
theorem SC (a b c:Int) (A:Nat) (w:World) (h0:w.cell? ⟨A,0,none⟩=some (.int .i64 a)) (h1:w.cell? ⟨A,1,none⟩=some (.int .i64 b)) (h2:w.cell? ⟨A,2,none⟩=some (.int .i64 c)) :
 Calls prog 230 #[.slice (some ⟨A,0,none⟩) 3 3] w fun e w'=>e=.returned (.int .i64 (orI a (orI b c)))/\w=w':=by
 go_enter func230,ntmps230;go_wp2;go_rounds 4
 all_goals
  go_ret;exact ⟨fC (by unfold orI;simp_all),rfl⟩
def LC (a b:Key):Int:=orI (Di a.name b.name) (orI (Di a.domain b.domain) (Di a.path b.path))
def fU (a b:Key):Bool:=decide (LC a b<0)
theorem Np:∀ a b:List UInt8,(Lib.compareBytes a b<0)↔a<b
 | [],[]=>by simp [Lib.compareBytes]
 | [],y :: b=>by simp [Lib.compareBytes]
 | x :: a,[]=>by simp [Lib.compareBytes]
 | x :: a,y :: b=>by
   unfold Lib.compareBytes;rw [List.cons_lt_cons_iff];by_cases h:x<y
   ·rw [if_pos h]
    simp [h]
   ·rw [if_neg h]
    by_cases h2:y<x
    ·rw [if_pos h2]
     have hne:x≠y:=fun e=>by rw [e] at h2;exact UInt8.lt_irrefl y h2
     simp [h,hne]
    ·rw [if_neg h2]
     have he:x=y:=UInt8.le_antisymm (UInt8.not_lt.1 h2) (UInt8.not_lt.1 h);rw [Np a b];simp [he]
theorem Nq:∀ a b:List UInt8,Lib.compareBytes a b=0↔a=b
 | [],[]=>by simp [Lib.compareBytes]
 | [],y :: b=>by simp [Lib.compareBytes]
 | x :: a,[]=>by simp [Lib.compareBytes]
 | x :: a,y :: b=>by
   unfold Lib.compareBytes;by_cases h:x<y
   ·rw [if_pos h]
    have hne:x≠y:=fun e=>by rw [e] at h;exact UInt8.lt_irrefl y h
    simp [hne]
   ·rw [if_neg h]
    by_cases h2:y<x
    ·rw [if_pos h2]
     have hne:x≠y:=fun e=>by rw [e] at h2;exact UInt8.lt_irrefl y h2
     simp [hne]
    ·rw [if_neg h2]
     have he:x=y:=UInt8.le_antisymm (UInt8.not_lt.1 h2) (UInt8.not_lt.1 h);rw [Nq a b];simp [he]
theorem Gq (a b:ByteArray):Di a b<0↔bl a<bl b:=Np _ _
theorem zY (a b:ByteArray):Di a b=0↔a=b:=by
 unfold Di;rw [Nq];exact ⟨fun h=>kY h,fun h=>by rw [h]⟩
theorem wK (a b:Key):fU a b=if a.name=b.name then (if a.domain=b.domain then decide (bl a.path<bl b.path) else decide (bl a.domain<bl b.domain)) else decide (bl a.name<bl b.name):=by
 unfold fU LC orI;by_cases h1:a.name=b.name
 ·rw [if_pos h1,if_pos ((zY _ _).2 h1)]
  by_cases h2:a.domain=b.domain
  ·rw [if_pos h2,if_pos ((zY _ _).2 h2)]
   exact decide_eq_decide.2 (Gq _ _)
  ·rw [if_neg h2,if_neg (fun e=>h2 ((zY _ _).1 e))]
   exact decide_eq_decide.2 (Gq _ _)
 ·rw [if_neg h1,if_neg (fun e=>h1 ((zY _ _).1 e))]
  exact decide_eq_decide.2 (Gq _ _)
theorem Fj (a b:ByteArray):Op.bytesLess a.toList b.toList=decide (bl a<bl b):=by
 rw [bytesLess_eq,ByteArray.toList_eq,ByteArray.toList_eq]
theorem wJ (a:Key):fU a a=false:=by
 rw [wK,if_pos rfl,if_pos rfl];exact aM (List.lt_irrefl _)
theorem z127 {p : Prop} (h : p := by
 rw [decide_eq_true_eq] at h k
 have h3 := tr h k
 rw [if_neg (fun e => by rw [e] at h3; exact List.lt_irrefl _ h3)]
 exact aR h3) : p := h
theorem oK {a b c:Key} (h:fU a b=true) (k:fU b c=true):fU a c=true:=by
 rw [wK] at h k ⊢;have tr:∀ {x y z:List UInt8},x<y->y<z->x<z:=fun h1 h2=>List.lt_trans h1 h2;by_cases h1:a.name=b.name
 ·rw [if_pos h1] at h
  by_cases k1:b.name=c.name
  ·rw [if_pos k1] at k
   rw [if_pos (h1.trans k1)];by_cases h2:a.domain=b.domain
   ·rw [if_pos h2] at h
    by_cases k2:b.domain=c.domain
    ·rw [if_pos k2] at k
     rw [if_pos (h2.trans k2)];rw [decide_eq_true_eq] at h k ⊢;exact tr h k
    ·rw [if_neg k2] at k
     rw [if_neg (by rw [h2];exact k2),h2];exact k
   ·rw [if_neg h2] at h
    by_cases k2:b.domain=c.domain
    ·rw [if_neg (by rw [<- k2];exact h2),<- k2]
     exact h
    ·rw [if_neg k2] at k
     exact z127
  ·rw [if_neg k1] at k
   rw [if_neg (by rw [h1];exact k1),h1];exact k
 ·rw [if_neg h1] at h
  by_cases k1:b.name=c.name
  ·rw [if_neg (by rw [<- k1];exact h1),<- k1]
   exact h
  ·rw [if_neg k1] at k
   exact z127
theorem Dq {x y:ByteArray} (h:x≠y) (k:¬ bl x<bl y):bl y<bl x :=
 Classical.byContradiction fun h2=>h (kY (List.le_antisymm (List.not_lt.1 h2) (List.not_lt.1 k)))
theorem rC {a b:Key} (h:a≠b) (k:fU a b=false):fU b a=true:=by
 rw [wK] at k ⊢;by_cases h1:a.name=b.name
 ·rw [if_pos h1] at k
  rw [if_pos h1.symm];by_cases h2:a.domain=b.domain
  ·rw [if_pos h2,decide_eq_false_iff_not] at k
   rw [if_pos h2.symm];exact aR (Dq (fun e=>h (by cases a;cases b;simp_all)) k)
  ·rw [if_neg h2,decide_eq_false_iff_not] at k
   rw [if_neg (fun e=>h2 e.symm)];exact aR (Dq h2 k)
 ·rw [if_neg h1,decide_eq_false_iff_not] at k
  rw [if_neg (fun e=>h1 e.symm)];exact aR (Dq h1 k)
theorem z88 {p : Prop} (h : p := by
 go_enter func148, ntmps148
 go_wp2
 go_ret
 exact ⟨au (Eq.trans (decide_eq_decide.2 Iff.rfl) HL.out.symm), by go_grown⟩) : p := h
theorem FP (a b:Key) (w:World) :
 Calls prog 148 #[.agg #[.string a.name,.string a.domain,.string a.path],.agg #[.string b.name,.string b.domain,.string b.path]] w fun e w'=>e=.returned (.bool (fU a b))/\Below w.heap.size w w':=by
 have hL:=wK a b;have hl1:=Fj a.name b.name;have hl2:=Fj a.domain b.domain;have hl3:=Fj a.path b.path;by_cases h1:a.name=b.name
 ·rw [if_pos h1] at hL
  have hn1:(a.name.toList == b.name.toList)=true:=by rw [mZ];exact aR (by rw [h1])
  by_cases h2:a.domain=b.domain
  ·rw [if_pos h2] at hL
   have hn2:(a.domain.toList == b.domain.toList)=true:=by rw [mZ];exact aR (by rw [h2])
   have HL:=aa hL;clear hL h1 h2
   exact z88
  ·rw [if_neg h2] at hL
   have hn2:(a.domain.toList == b.domain.toList)=false:=by rw [mZ];exact aM fun e=>h2 (kY e)
   have HL:=aa hL;clear hL h1 h2
   exact z88
 ·rw [if_neg h1] at hL
  have hn1:(a.name.toList == b.name.toList)=false:=by rw [mZ];exact aM fun e=>h1 (kY e)
  have HL:=aa hL;clear hL h1
  exact z88
end Go.Proofs.YthphepeniaemoaaGreat
/- A slice of keys under slices.SortFunc, by match.Less. Conditions: at most 2^30 of them. -/
namespace Go.Proofs.YthphepeniaemoaaGreat
open Go.RowKit Go.Shelf
theorem SK (a b:Key) (w:World) :
 Calls prog 184 #[.agg #[.string a.name,.string a.domain,.string a.path],.agg #[.string b.name,.string b.domain,.string b.path]] w fun e w'=>e=.returned (.int .i64 (LC a b))/\Up w w':=by
 go_enter func184,ntmps184;go_wp2;go_region_held3 (fun w'=>w'.cell? ⟨w.heap.size,0,none⟩=some (.string a.name)/\w'.cell? ⟨w.heap.size,1,none⟩=some (.string a.domain)/\w'.cell? ⟨w.heap.size,2,none⟩=some (.string a.path)/\w'.cell? ⟨w.heap.size+1,0,none⟩=some (.string b.name)/\w'.cell? ⟨w.heap.size+1,1,none⟩=some (.string b.domain)/\w'.cell? ⟨w.heap.size+1,2,none⟩=some (.string b.path)) (go_keep)
  (first
   | (go_at_call 231;refine (Aj _ _ _).mono ?_;rintro e w1 ⟨rfl,rfl⟩)
   | (go_at_call 230;go_call SC (Di a.name b.name) (Di a.domain b.domain) (Di a.path b.path) as e w1 ⟨rfl,rfl⟩))
 go_wp2;go_ret;exact ⟨rfl,by go_grown,Nat.le_succ _⟩
theorem KF (a b:Key) (w:World) :
 Calls prog 145 #[.agg #[.string a.name,.string a.domain,.string a.path],.agg #[.string b.name,.string b.domain,.string b.path]] w fun e w'=>e=.returned (.bool (fU a b))/\Up w w':=by
 go_enter func145,ntmps145;go_wp2_with (go_at_call 184;refine (SK a b _).mono ?_;rintro e w1 ⟨rfl,hb,hd⟩)
 go_ret;exact ⟨rfl,below2 (by go_grown) hb,hd⟩
/-- the closure of Winners -/
def uA (a b:Key):Int:=if fU a b=true then -1 else 1
theorem EW (a b:Key):decide (uA a b<0)=fU a b:=by
 unfold uA
 cases fU a b <;> rfl
theorem NE (a b:Key) (w:World) :
 Calls prog 144 #[.agg #[.string a.name,.string a.domain,.string a.path],.agg #[.string b.name,.string b.domain,.string b.path]] w fun e w'=>e=.returned (.int .i64 (uA a b))/\Up w w':=by
 have hK:=fun (X:World)=>KF a b X;have HC:Hid (uA a b=if fU a b=true then -1 else 1):=rfl;generalize uA a b=c at *
 cases hk:fU a b with
 | true =>
   rw [hk] at hK;have HE:Hid (c = -1):=by unfold Hid;rw [HC.out,hk];rfl
   have HK:=aa hK;clear hK hk HC;go_enter func144,ntmps144;go_wp2_with (go_at_call 145;(with_reducible refine (HK.out _).mono ?_);rintro e w1 ⟨rfl,hb,hd⟩)
   go_ret;exact ⟨by rw [HE.out];rfl,below2 (by go_grown) hb,hd⟩
 | false =>
   rw [hk] at hK;have HE:Hid (c=1):=by unfold Hid;rw [HC.out,hk];rfl
   have HK:=aa hK;clear hK hk HC;go_enter func144,ntmps144;go_wp2_with (go_at_call 145;(with_reducible refine (HK.out _).mono ?_);rintro e w1 ⟨rfl,hb,hd⟩)
   go_ret;exact ⟨by rw [HE.out];rfl,below2 (by go_grown) hb,hd⟩
instance:Inhabited Key:=⟨⟨ByteArray.empty,ByteArray.empty,ByteArray.empty⟩⟩
def CW (k:Key):List Value:=[.string k.name,.string k.domain,.string k.path]
def jo (l:List Key):List Value:=l.flatMap fun k=>[.string k.name,.string k.domain,.string k.path]
theorem Uu:Go.Sort.SWO (ltOf uA):=by
 have e:∀ x y,ltOf uA x y=fU x y:=fun x y=>EW x y;refine ⟨fun x=>by rw [e];exact wJ x,fun x y z h k=>?_,fun x y z h k=>?_⟩
 ·rw [e] at h k ⊢;exact oK h k
 ·rw [e] at h k ⊢
  cases hh:fU x z with
  | false=>rfl
  | true =>
    by_cases hxy:x=y
    ·subst hxy;rw [k] at hh;cases hh
    ·have h1:=rC hxy h
     have h2:=oK h1 hh;rw [k] at h2;cases h2
theorem Lt (blk off size:Nat) (w:World):CmpLays prog 144 #[] CW 3 uA blk off size w :=
 fun _ _ _ _ x y=>(NE x y _).mono fun _ _ ⟨he,hu⟩=>⟨he,hu.grown⟩
theorem P6 (base:Nat) (v:Value) (ks:List Key) (w:World) (hown:w.ownsRow base 78 3 v ks.length (jo ks)) (hl:ks.length<=1073741824) :
 Calls prog 143 #[v,.func (.func 144) #[] #[]] w fun e w'=>e=.returned (.tuple #[])/\∃ ts:List Key,ts.Perm ks/\Go.Sort.SortedIn fU 0 ts.toArray.size ts.toArray/\w'.ownsRow base 78 3 v ks.length (jo ts)/\Fr (fun k=>v.ownBlock=some k) w w':=by
 rcases hown.2 with ⟨rfl,hz⟩ | ⟨g,cap,cur,rfl,hbase,hgb,r1,r2,r3,r4⟩
 ·obtain rfl:ks=[]:=List.eq_nil_of_length_eq_zero hz
  refine (AnyF.slices_SortFunc_none Tryz.sortKey none 0 _ w).mono ?_
  exact z106
 ·have hH:Go.Sort.HoldsK CW 3 w g 0 ks.toArray:=uM (k:=3) (fun _=>rfl) (by decide) hgb r4
  have hgl:g<w.heap.size:=(Array.getElem?_eq_some_iff.1 hgb).1;have hc:=AnyQ.slices_SortFunc Tryz.sortKey 3 Tryz.isAgg78 Tryz.sizeOf78 CW (fun _=>rfl) (fun x v hv=>by simp [CW] at hv;rcases hv with rfl | rfl | rfl <;> rfl) uA Uu 144 #[] g 0 cap ks.toArray w (enters_of func144 (by kernel_rfl) rfl) (Lt g 0 _ w) hH hgl (by simp;omega);rw [List.size_toArray] at hc;refine hc.mono ?_;rintro e w' ⟨rfl,d',n,os,⟨p1,p2,p3⟩,hs,rfl⟩
  refine y75 ?_
  intro hd hsz hperm
  refine ⟨rfl,d'.toList,hperm,?_,?_,?_⟩
  ·have e:ltOf uA=fU:=by funext x y;exact EW x y
   rw [e] at hs;simpa [hsz] using hs
  ·have h9:=oV (enc:=CW) (k:=3) (ts:=d'.toList) (ss:=ks) (n:=n) (os:=os) (fun _=>rfl) (by decide) (by simpa using hsz) hbase hgb r1 r2 r3
   rw [<- hd] at h9;exact h9
  ·exact (CG d').mono fun k _ hk=>by subst hk;rfl
theorem Tryz.infoKey:(prog.info? 78).map (fun i=>(i.zero,i.size,i.bytes))=some (some (.agg #[.string ByteArray.empty,.string ByteArray.empty,.string ByteArray.empty]),3,48):=by kernel_rfl
theorem Gf (l:List Key) (k:Key):jo (l++[k])=jo l++[.string k.name,.string k.domain,.string k.path]:=by simp [jo]
theorem yX:∀ (l:List Key) (i:Nat) (h:i<l.length),(jo l)[i * 3]?=some (.string l[i].name)/\(jo l)[i * 3+1]?=some (.string l[i].domain)/\(jo l)[i * 3+2]?=some (.string l[i].path)
 | [],i,h=>by simp at h
 | d :: l,0,_=>by simp [jo]
 | d :: l,i+1,h=>by
   have ih:=yX l i (by simpa using h);have e:jo (d :: l)=[.string d.name,.string d.domain,.string d.path]++jo l:=rfl
   exact z68
theorem Iq {w:World} {a:Option Addr} {l:List Key} (h:CellsIn w a (jo l)) {k:Nat} (hk:k<l.length) :
 ∃ A off,a=some ⟨A,off,none⟩/\w.cell? ⟨A,off+k * 3,none⟩=some (.string l[k].name)/\w.cell? ⟨A,off+k * 3+1,none⟩=some (.string l[k].domain)/\w.cell? ⟨A,off+k * 3+2,none⟩=some (.string l[k].path):=by
 obtain ⟨g0,g1,g2⟩:=yX l k hk;rcases h with h | ⟨A,off,h1,h2⟩
 ·rw [h] at g0;simp at g0
 ·exact ⟨A,off,h1,h2 _ _ g0,h2 _ _ g1,h2 _ _ g2⟩
theorem ATab.keyW {w:World} {b:Nat} {A:List (Key×Nat)} (h:ATab w b A):∀ k∈A.map (·.1),KeyW k:=fun k hk=>by
 obtain ⟨p,hp,rfl⟩:=List.mem_map.1 hk;exact h.okk p hp
def Xt (s:MS) (w:World) (e:Ending) (w':World):Prop :=
 ∃ (ts:List Key) (a:Option Addr) (ls:List EvIt) (cap:Nat),e=.returned (.slice a ls.length cap)/\EvsIn w' a ls/\evsOf ls=ts.map (fun k=>(fQ (keyOfS s k)).1)/\ts.Perm (s.A.map (·.1))/\(ts.Pairwise fun x y=>fU x y=true)/\Below w.heap.size w w'
theorem FZ {m:Nat} {b:MB} {s:MS} (w:World) (h:MpIn w m b s) (hi0:MInv s) :
 Calls prog 100 #[.pointer (some ⟨m,0,none⟩)] w (Xt s w):=by
 obtain ⟨i0,hi,hz0,hz1,hz2⟩:=info_parts Tryz.infoKey;obtain ⟨c0,c1,c2,c3⟩:=bU h.cell;have htab:=h.alive;have HH:=aa h;have HKW:=aa htab.keyW;have HND:Hid ((s.A.map (·.1)).Nodup):=List.pairwise_map.2 htab.apart;have HI:=aa hi0;obtain ⟨iE,hiE,hE0,hE1,hE2⟩:=info_parts Tryz.infoEv;have HBK:=aa (h.low (gZ b s.A));have hbd:=(hi0.bounds h).1;clear c0 c2 c3 h;go_enter func100,ntmps100;go_wp2_with (at_range;refine iK rD _ rfl _ 120 rfl 121 underlying120 b.ab rfl htab ?_;intro w0 Po hrg0 hb0 hs0)
 go_frame
 go_loopw [3] (fun v wr=>∃ rest cnt ks,TabIt prog 78 fM KeyW Kw wr b.ab w.heap.size s.A rest cnt/\(ks++rest.map (·.1)).Perm (s.A.map (·.1))/\wr.ownsRow (w.heap.size+1) 78 3 v ks.length (jo ks)/\Below w.heap.size w wr) (fun _ wr=>wr.rangeLeft b.ab w.heap.size)
 case atStart=>exact ⟨s.A,_,[],hrg0,List.Perm.refl _,World.ownsRow_nil _ _ _ _,hb0⟩
 case round =>
  obtain ⟨rest, cnt, ks, hrg, hC, hown, hbw⟩ := hrel
  have hzw : w.heap.size + 1 <= wr.heap.size := by have := hrg.lt; omega
  have HLE := aa hrg.left_eq
  go_wp2_with (at_next;refine iC rD _ rfl _ rfl b.ab w.heap.size cnt rfl hrg ?_ ?_)
  rotate_left
  ·intro x n rest' w2 cnt2 hperm hpm hrg2 hlt hg2 hs2 hen
   have hlen:ks.length<s.A.length:=by
        exact z86
   have HC2:Hid (((ks++[x])++rest'.map (·.1)).Perm (s.A.map (·.1))):=by
        exact z41
   have hNlt:=hrg.lt
   refine y24 ?_
   intro hown2 hb2
   have hsz2:=hg2.size;clear hs2 hown hrg hg2;go_upto_region 7 with fail
   refine aN (fun W3 hW3=>?_);have hb3:Below w2.heap.size w2 W3:=by rw [hW3.out];go_grown
   have y0:W3.cell? ⟨w2.heap.size,0,none⟩=some (.string x.name):=by rw [hW3.out];go_simp
   have y1:W3.cell? ⟨w2.heap.size,1,none⟩=some (.string x.domain):=by rw [hW3.out];go_simp
   have y2:W3.cell? ⟨w2.heap.size,2,none⟩=some (.string x.path):=by rw [hW3.out];go_simp
   clear hW3;have hown3:=ownsRow_below hown2 hb3;have hrg3:=hrg2.kept hb3;have hsz3:=hb3.size;have hbw3:Below w.heap.size w W3:=hb2.trans (hb3.mono hb2.size);clear hown2 hrg2 hb2;go_wp2_with (at_builtin;refine wpList_append_own _ rfl _ _ 219 rfl (w.heap.size+1) 78 i0 (.agg #[.string ByteArray.empty,.string ByteArray.empty,.string ByteArray.empty]) 3 48 underlying219 hi hz0 hz1 hz2 rfl (by decide) _ _ _ rfl (hown3.alloc _) ⟨W3.heap.size,0,none⟩ 1 1 [.string x.name,.string x.domain,.string x.path] rfl rfl (gX _ _ _) (by simp [Value.oneCell']) (by unfold maxLen;omega) (by omega) (by simp;omega) ?_;intro v2 w4 hown4 hgrow _)
   have hb4:Below W3.heap.size W3 (W3.alloc (.cells #[.string x.name,.string x.domain,.string x.path] 78)):=(bb _ _).alloc (aq _) _;have hrg4:TabIt prog 78 fM KeyW Kw w4 b.ab w.heap.size s.A rest' cnt2:=by
        have h4:=hrg3.kept hb4;have hlo:b.ab<w.heap.size+1:=by have:=HBK.out;omega
        exact z57
   have HZ:=aa (a7 (show w4.ownsRow (w.heap.size+1) 78 3 v2 (ks++[x]).length (jo (ks++[x])) by rw [Gf,ar];exact hown4) (a7 hrg4 ((hbw3.trans (hb4.mono hbw3.size)).grown hgrow (by simp;omega) (fun j hj=>by have:=(hown3.lt j hj).1;omega))))
   clear hown4 hrg4 hgrow hown3 hrg3 y0 y1 y2
   go_wp2
   go_roundw
   case rel => exact ⟨rest', cnt2, ks ++ [x], HZ.out.2.1, HC2.out, HZ.out.1, HZ.out.2.2⟩
   case measure => rw [HZ.out.2.1.left_eq, HLE.out]; exact hlt
  ·intro hr0
   subst hr0;have hperm:ks.Perm (s.A.map (·.1)):=by simpa using hC
   have hkl:ks.length<=1073741824:=by have:=hperm.length_eq;simp at this;omega
   obtain ⟨v0,hv0⟩:∃ v0,v0=u3:=⟨_,rfl⟩;rw [<- hv0] at hown ⊢;clear hv0 hrg hC HLE;have HS:=aa (P6 (w.heap.size+1) v0 ks wr hown hkl);have HP:=aa hperm;have HO:=aa hown;clear hown hperm;go_upto_region 9 with (go_at_call 143;(with_reducible refine HS.out.mono ?_);rintro e w1 ⟨rfl,ts,hts,hsrt,QJ,WL⟩)
   have hb1:Below w.heap.size w w1:=hbw.trans (WL.below hbw.size (fun k hk=>by have:=(HO.out.lt k hk).1;omega));have htl:ts.length=ks.length:=hts.length_eq;rw [<- htl] at QJ;obtain ⟨aT,cT,rfl,KO,_⟩:=dE QJ;have hpm:Hid (ts.Perm (s.A.map (·.1))):=hts.trans HP.out;have HSr:Hid (ts.Pairwise fun x y=>fU x y=true):=by
        have h5:=oQ (lt:=fU) (fun x y h k=>rC h k) (d:=ts.toArray) hsrt (by
         simp only [];exact (hpm.out.nodup_iff).2 HND.out)
        unfold Hid;simpa using h5
   have htk:ts.length<=1073741824:=by omega
   have hm1:=HH.out.kept_w hb1;clear QJ WL hsrt hts HS HO HP hkl hbw htl;go_wp2;go_loopw [29,5] (fun i v wq=>∃ (k:Nat) (ls:List EvIt),i=.int .i64 k/\k<=ts.length/\EvsGr w1.heap.size v ls wq/\evsOf ls=(ts.take k).map (fun k=>(fQ (keyOfS s k)).1)/\Below w1.heap.size w1 wq) (fun i _ _=>ts.length - (intOf i).toNat)
   case atStart=>exact ⟨0,[],rfl,Nat.zero_le _,EvsGr.nil _ _,rfl,bb _ _⟩
   case round =>
        obtain ⟨k,ls,rfl,hk,hgr,hev,hbr⟩:=hrel;have HEV:=aa hev;clear hev;by_cases hlt:k<ts.length
        ·obtain ⟨A,off,rfl,c0,c1,c2⟩:=Iq (KO.kept hbr) hlt
         have hkw:=HKW.out _ (hpm.out.mem_iff.1 (List.getElem_mem hlt));have hzr:=hbr.size;have hr:=hm1.kept_w hbr;have HT:Hid ((ts.take (k+1)).map (fun k=>(fQ (keyOfS s k)).1)=(ts.take k).map (fun k=>(fQ (keyOfS s k)).1)++[(fQ (keyOfS s ts[k])).1]):=by
          unfold Hid;rw [List.take_add_one,List.getElem?_eq_getElem hlt,List.map_append];rfl
         have HLT:=aa hlt;have hlk:ls.length=k:=by
          exact z141
         have hkl:k<=1073741824:=by omega
         generalize ts[k]=x at *;have HW:=aa (fun (X:World) (h:MpIn X m b s)=>F5 x hkw X h HI.out);go_upto_region 13 with fail
         refine aN (fun V hV=>?_);have hbV:Below wr.heap.size wr V:=by rw [hV.out];go_grown
         have y0:V.cell? ⟨wr.heap.size,0,none⟩=some (.string x.name):=by rw [hV.out];go_simp
         have y1:V.cell? ⟨wr.heap.size,1,none⟩=some (.string x.domain):=by rw [hV.out];go_simp
         have y2:V.cell? ⟨wr.heap.size,2,none⟩=some (.string x.path):=by rw [hV.out];go_simp
         have hmV:=hr.kept_w hbV;have hgV:=hgr.kept hbV;have Tj:Below w1.heap.size w1 V:=hbr.trans (hbV.mono hzr);clear hV hbV hr hgr c0 c1 c2 hkw;generalize (fQ (keyOfS s x))=R at *;go_upto_region 14 with (first
          | (go_at_call 146;(with_reducible refine (HW.out _ hmV).mono ?_);rintro v w4 ⟨aw,cw,rfl,hdw,htw,hb4⟩)
          | (refine bK 82 _ _ _ (ah R.1 aw cw).toArray rfl rfl (by kernel_rfl) rfl (by kernel_rfl) ?_))
         refine aN (fun V5 hV5=>?_);have hbA:Below w4.heap.size w4 V5:=by rw [hV5.out];exact (bb w4.heap.size w4).alloc (aq _) _
         have hR5:V5.rangeAt w4.heap.size 0 (ah R.1 aw cw):=by rw [hV5.out];exact dA R.1 aw cw w4 82
         have hgr5:=(hgV.kept hb4).kept hbA;have hd5:=hdw.kept hbA;have ht5:=htw.kept hbA;have hb5:Below w1.heap.size w1 V5:=(Tj.trans (hb4.mono Tj.size)).trans (hbA.mono (Nat.le_trans Tj.size hb4.size));generalize w4.heap.size=B4 at *;have HR:=aa (a7 hd5 (a7 ht5 (a7 hgr5 hb5)));have hown5:=hgr5.own;have hz5:=hb5.size;clear hV5 hbA hgV hdw htw hb4 Tj hmV y0 y1 y2 hd5 ht5 hgr5 hb5;go_wp2_with (first
          | ((with_reducible refine bu _ B4 0 R.1 aw cw hR5 ?_ rfl ?_);exact rfl)
          | (refine wpList_buildOne rfl 33 82 _ rfl (ah R.1 aw cw).toArray 19 rfl rfl (by decide) (by decide) underlying33 (by kernel_rfl) (by kernel_rfl) ?_)
          | (at_builtin;go_loud (refine wpList_append_own_at _ rfl _ _ 33 rfl w1.heap.size 82 iE (.agg (ah ev0 none 0).toArray) 19 176 underlying33 hiE hE0 hE1 hE2 rfl (by decide) _ _ _ rfl (hown5.alloc _) ⟨V5.heap.size,0,none⟩ 1 1 (ah R.1 aw cw) rfl rfl (wX V5 R.1 aw cw _) (df _ _ _) (by unfold maxLen;omega) (by omega) (by simp;omega) ?_)))
         intro v' wf mV hgrow _ _;have hal:Below V5.heap.size V5 (V5.alloc (Obj.cells (ah R.1 aw cw).toArray 82)):=(bb _ _).alloc (aq _) _;obtain ⟨hd5,ht5,hgr5,hb5⟩:=HR.out;have hgN:=EvsGr.app (x:=(R.1,aw,cw)) (hgr5.kept hal) (show wf.ownsRow w1.heap.size 82 19 v' (ls.length+1) (aJ ls++kT (R.1,aw,cw)) by rw [hlk];exact mV) hgrow (hd5.kept hal) (ht5.kept hal);have hbF:Below w1.heap.size w1 wf:=(hb5.trans (hal.mono hz5)).grown hgrow (by have:=hal.size;omega) (fun j hj=>(hown5.lt j hj).1);have HZ:=aa (a7 hgN hbF);clear hgN hbF mV hgrow hal hown5 hR5 hd5 ht5 hgr5 hb5;go_wp2;go_roundw
         case rel=>exact ⟨k+1,ls++[(R.1,aw,cw)],by go_num,HLT.out,HZ.out.1,by
          rw [HT.out,<- HEV.out];show (ls++[(R.1,aw,cw)]).map (·.1)=_;rw [List.map_append];rfl,HZ.out.2⟩
         case measure => exact z64
        ·obtain rfl:k=ts.length:=by omega
         obtain ⟨aF,cF,rfl,hF⟩:=hgr.evs;have hE:evsOf ls=ts.map (fun k=>(fQ (keyOfS s k)).1):=by
          have hE0:=HEV.out;rwa [List.take_length] at hE0
         have HE:=aa hE;clear hE hgr;go_wp2;all_goals
          go_ret;exact ⟨ts,aF,ls,cF,rfl,hF,HE.out,hpm.out,HSr.out,hb1.trans (hbr.mono hb1.size)⟩
end Go.Proofs.YthphepeniaemoaaGreat
