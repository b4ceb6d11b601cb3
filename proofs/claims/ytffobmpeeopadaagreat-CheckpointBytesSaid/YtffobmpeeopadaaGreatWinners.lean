/- Strings in order: strings.Compare; keys in order: match.Less. Conditions: none. -/
import Derived.Test.YtffobmpeeopadaaGreatDot
import Derived.Test.YtffobmpeeopadaaGreatHost
import Derived.Lib.Bytealg
import Derived.Test.YtffobmpeeopadaaGreatEq
import Derived.Sort.Walk0
import Derived.Test.YtffobmpeeopadaaGreatSrtK
import Derived.Test.YtffobmpeeopadaaGreatWin
set_option linter.unusedSimpArgs false
set_option linter.unusedVariables false
set_option linter.unnecessarySimpa false
set_option maxHeartbeats 16000000
set_option maxRecDepth 100000
open Go.Proofs.Tryz
namespace Go.Proofs.YtffobmpeeopadaaGreat
open Go.RowKit
def DK (a b:ByteArray):Int:=Lib.compareBytes a.data.toList b.data.toList
theorem ED (a b:ByteArray) (w:World) :
 Calls prog 246 #[.string a,.string b] w fun e w'=>e=.returned (.int .i64 (DK a b))/\w=w':=by
 go_enter func246,ntmps246;go_wp2;rw [run_callFunc_extern func269 (by kernel_rfl) (by kernel_rfl) (by kernel_rfl) (e:=Extern.BytealgCompare.compare) (by kernel_rfl),Lib.run_compareString];simp only [Result.andThen];rw [Oper.upon_value];go_wp2;go_ret;exact ⟨rfl,rfl⟩
theorem AU (a b:ByteArray) (w:World) :
 Calls prog 212 #[.string a,.string b] w fun e w'=>e=.returned (.int .i64 (DK a b))/\w=w':=by
 go_enter func212,ntmps212;go_wp2_with (go_at_call 246;refine (ED _ _ _).mono ?_;rintro e w1 ⟨rfl,rfl⟩)
 go_ret;exact ⟨rfl,rfl⟩
theorem Tu (a b c:Int) (A:Nat) (w:World) (h0:w.cell? ⟨A,0,none⟩=some (.int .i64 a)) (h1:w.cell? ⟨A,1,none⟩=some (.int .i64 b)) (h2:w.cell? ⟨A,2,none⟩=some (.int .i64 c)) :
 Calls prog 195 #[.slice (some ⟨A,0,none⟩) 3 3] w fun e w'=>e=.returned (.int .i64 (orI a (orI b c)))/\w=w':=by
 go_enter func195,ntmps195;go_wp2;go_rounds 4
 all_goals
  go_ret;exact ⟨dV (by unfold orI;simp_all),rfl⟩
def MI (a b:Key):Int:=orI (DK a.name b.name) (orI (DK a.domain b.domain) (DK a.path b.path))
def gy (a b:Key):Bool:=decide (MI a b<0)
theorem NP:∀ a b:List UInt8,(Lib.compareBytes a b<0)↔a<b
 | [],[]=>by simp [Lib.compareBytes]
 | [],y :: b=>by simp [Lib.compareBytes]
 | x :: a,[]=>by simp [Lib.compareBytes]
 | x :: a,y :: b=>by
   unfold Lib.compareBytes;rw [List.cons_lt_cons_iff];by_cases h:x<y
   ·rw [if_pos h]
    simp [h]
   ·rw [if_neg h]
    by_cases h2:y<x
    ·rw [if_pos h2]
     have hne:x≠y:=fun e=>by rw [e] at h2;exact UInt8.lt_irrefl y h2
     simp [h,hne]
    ·rw [if_neg h2]
     have he:x=y:=UInt8.le_antisymm (UInt8.not_lt.1 h2) (UInt8.not_lt.1 h);rw [NP a b];simp [he]
theorem NQ:∀ a b:List UInt8,Lib.compareBytes a b=0↔a=b
 | [],[]=>by simp [Lib.compareBytes]
 | [],y :: b=>by simp [Lib.compareBytes]
 | x :: a,[]=>by simp [Lib.compareBytes]
 | x :: a,y :: b=>by
   unfold Lib.compareBytes;by_cases h:x<y
   ·rw [if_pos h]
    have hne:x≠y:=fun e=>by rw [e] at h;exact UInt8.lt_irrefl y h
    simp [hne]
   ·rw [if_neg h]
    by_cases h2:y<x
    ·rw [if_pos h2]
     have hne:x≠y:=fun e=>by rw [e] at h2;exact UInt8.lt_irrefl y h2
     simp [hne]
    ·rw [if_neg h2]
     have he:x=y:=UInt8.le_antisymm (UInt8.not_lt.1 h2) (UInt8.not_lt.1 h);rw [NQ a b];simp [he]
theorem GZ (a b:ByteArray):DK a b<0↔bl a<bl b:=NP _ _
theorem Ar (a b:ByteArray):DK a b=0↔a=b:=by
 unfold DK;rw [NQ];exact ⟨fun h=>lG h,fun h=>by rw [h]⟩
theorem xn (a b:Key):gy a b=if a.name=b.name then (if a.domain=b.domain then decide (bl a.path<bl b.path) else decide (bl a.domain<bl b.domain)) else decide (bl a.name<bl b.name):=by
 unfold gy MI orI;by_cases h1:a.name=b.name
 ·rw [if_pos h1,if_pos ((Ar _ _).2 h1)]
  by_cases h2:a.domain=b.domain
  ·rw [if_pos h2,if_pos ((Ar _ _).2 h2)]
   exact decide_eq_decide.2 (GZ _ _)
  ·rw [if_neg h2,if_neg (fun e=>h2 ((Ar _ _).1 e))]
   exact decide_eq_decide.2 (GZ _ _)
 ·rw [if_neg h1,if_neg (fun e=>h1 ((Ar _ _).1 e))]
  exact decide_eq_decide.2 (GZ _ _)
theorem FX (a b:ByteArray):Op.bytesLess a.toList b.toList=decide (bl a<bl b):=by
 rw [bytesLess_eq,ByteArray.toList_eq,ByteArray.toList_eq]
theorem xk (a:Key):gy a a=false:=by
 rw [xn,if_pos rfl,if_pos rfl];exact decide_eq_false (List.lt_irrefl _)
theorem z129 {p : Prop} (h : p := by
 rw [decide_eq_true_eq] at h k
 have h3 := tr h k
 rw [if_neg (fun e => by rw [e] at h3; exact List.lt_irrefl _ h3)]
 exact decide_eq_true h3) : p := h
theorem pF {a b c:Key} (h:gy a b=true) (k:gy b c=true):gy a c=true:=by
 rw [xn] at h k ⊢;have tr:∀ {x y z:List UInt8},x<y->y<z->x<z:=fun h1 h2=>List.lt_trans h1 h2;by_cases h1:a.name=b.name
 ·rw [if_pos h1] at h
  by_cases k1:b.name=c.name
  ·rw [if_pos k1] at k
   rw [if_pos (h1.trans k1)];by_cases h2:a.domain=b.domain
   ·rw [if_pos h2] at h
    by_cases k2:b.domain=c.domain
    ·rw [if_pos k2] at k
     rw [if_pos (h2.trans k2)];rw [decide_eq_true_eq] at h k ⊢;exact tr h k
    ·rw [if_neg k2] at k
     rw [if_neg (by rw [h2];exact k2),h2];exact k
   ·rw [if_neg h2] at h
    by_cases k2:b.domain=c.domain
    ·rw [if_neg (by rw [<- k2];exact h2),<- k2]
     exact h
    ·rw [if_neg k2] at k
     exact z129
  ·rw [if_neg k1] at k
   rw [if_neg (by rw [h1];exact k1),h1];exact k
 ·rw [if_neg h1] at h
  by_cases k1:b.name=c.name
  ·rw [if_neg (by rw [<- k1];exact h1),<- k1]
   exact h
  ·rw [if_neg k1] at k
   exact z129
theorem DV {x y:ByteArray} (h:x≠y) (k:¬ bl x<bl y):bl y<bl x :=
 Classical.byContradiction fun h2=>h (lG (List.le_antisymm (List.not_lt.1 h2) (List.not_lt.1 k)))
theorem sJ {a b:Key} (h:a≠b) (k:gy a b=false):gy b a=true:=by
 rw [xn] at k ⊢;by_cases h1:a.name=b.name
 ·rw [if_pos h1] at k
  rw [if_pos h1.symm];by_cases h2:a.domain=b.domain
  ·rw [if_pos h2,decide_eq_false_iff_not] at k
   rw [if_pos h2.symm];exact decide_eq_true (DV (fun e=>h (by cases a;cases b;simp_all)) k)
  ·rw [if_neg h2,decide_eq_false_iff_not] at k
   rw [if_neg (fun e=>h2 e.symm)];exact decide_eq_true (DV h2 k)
 ·rw [if_neg h1,decide_eq_false_iff_not] at k
  rw [if_neg (fun e=>h1 e.symm)];exact decide_eq_true (DV h1 k)
theorem z90 {p : Prop} (h : p := by
 go_enter func147, ntmps147
 go_wp2
 go_ret
 exact ⟨aB (Eq.trans (decide_eq_decide.2 Iff.rfl) HL.out.symm), by go_grown⟩) : p := h
theorem Gl (a b:Key) (w:World) :
 Calls prog 147 #[.agg #[.string a.name,.string a.domain,.string a.path],.agg #[.string b.name,.string b.domain,.string b.path]] w fun e w'=>e=.returned (.bool (gy a b))/\Below w.heap.size w w':=by
 have hL:=xn a b;have hl1:=FX a.name b.name;have hl2:=FX a.domain b.domain;have hl3:=FX a.path b.path;by_cases h1:a.name=b.name
 ·rw [if_pos h1] at hL
  have hn1:(a.name.toList == b.name.toList)=true:=by rw [nJ];exact decide_eq_true (by rw [h1])
  by_cases h2:a.domain=b.domain
  ·rw [if_pos h2] at hL
   have hn2:(a.domain.toList == b.domain.toList)=true:=by rw [nJ];exact decide_eq_true (by rw [h2])
   have HL:=aa hL;clear hL h1 h2
   exact z90
  ·rw [if_neg h2] at hL
   have hn2:(a.domain.toList == b.domain.toList)=false:=by rw [nJ];exact decide_eq_false fun e=>h2 (lG e)
   have HL:=aa hL;clear hL h1 h2
   exact z90
 ·rw [if_neg h1] at hL
  have hn1:(a.name.toList == b.name.toList)=false:=by rw [nJ];exact decide_eq_false fun e=>h1 (lG e)
  have HL:=aa hL;clear hL h1
  exact z90
end Go.Proofs.YtffobmpeeopadaaGreat
/- A slice of keys under slices.SortFunc, by match.Less. Conditions: at most 2^30 of them. -/
namespace Go.Proofs.YtffobmpeeopadaaGreat
open Go.RowKit Go.Shelf
theorem TB (a b:Key) (w:World) :
 Calls prog 174 #[.agg #[.string a.name,.string a.domain,.string a.path],.agg #[.string b.name,.string b.domain,.string b.path]] w fun e w'=>e=.returned (.int .i64 (MI a b))/\Up w w':=by
 go_enter func174,ntmps174;go_wp2;go_region_held3 (fun w'=>w'.cell? ⟨w.heap.size,0,none⟩=some (.string a.name)/\w'.cell? ⟨w.heap.size,1,none⟩=some (.string a.domain)/\w'.cell? ⟨w.heap.size,2,none⟩=some (.string a.path)/\w'.cell? ⟨w.heap.size+1,0,none⟩=some (.string b.name)/\w'.cell? ⟨w.heap.size+1,1,none⟩=some (.string b.domain)/\w'.cell? ⟨w.heap.size+1,2,none⟩=some (.string b.path)) (go_keep)
  (first
   | (go_at_call 212;refine (AU _ _ _).mono ?_;rintro e w1 ⟨rfl,rfl⟩)
   | (go_at_call 195;go_call Tu (DK a.name b.name) (DK a.domain b.domain) (DK a.path b.path) as e w1 ⟨rfl,rfl⟩))
 go_wp2;go_ret;exact ⟨rfl,by go_grown,Nat.le_succ _⟩
theorem Lr (a b:Key) (w:World) :
 Calls prog 144 #[.agg #[.string a.name,.string a.domain,.string a.path],.agg #[.string b.name,.string b.domain,.string b.path]] w fun e w'=>e=.returned (.bool (gy a b))/\Up w w':=by
 go_enter func144,ntmps144;go_wp2_with (go_at_call 174;refine (TB a b _).mono ?_;rintro e w1 ⟨rfl,hb,hd⟩)
 go_ret;exact ⟨rfl,below2 (by go_grown) hb,hd⟩
/-- the closure of Winners -/
def uX (a b:Key):Int:=if gy a b=true then -1 else 1
theorem FI (a b:Key):decide (uX a b<0)=gy a b:=by
 unfold uX
 cases gy a b <;> rfl
theorem Ob (a b:Key) (w:World) :
 Calls prog 143 #[.agg #[.string a.name,.string a.domain,.string a.path],.agg #[.string b.name,.string b.domain,.string b.path]] w fun e w'=>e=.returned (.int .i64 (uX a b))/\Up w w':=by
 have hK:=fun (X:World)=>Lr a b X;have HC:Hid (uX a b=if gy a b=true then -1 else 1):=rfl;generalize uX a b=c at *
 cases hk:gy a b with
 | true =>
   rw [hk] at hK;have HE:Hid (c = -1):=by unfold Hid;rw [HC.out,hk];rfl
   have HK:=aa hK;clear hK hk HC;go_enter func143,ntmps143;go_wp2_with (go_at_call 144;(with_reducible refine (HK.out _).mono ?_);rintro e w1 ⟨rfl,hb,hd⟩)
   go_ret;exact ⟨by rw [HE.out];rfl,below2 (by go_grown) hb,hd⟩
 | false =>
   rw [hk] at hK;have HE:Hid (c=1):=by unfold Hid;rw [HC.out,hk];rfl
   have HK:=aa hK;clear hK hk HC;go_enter func143,ntmps143;go_wp2_with (go_at_call 144;(with_reducible refine (HK.out _).mono ?_);rintro e w1 ⟨rfl,hb,hd⟩)
   go_ret;exact ⟨by rw [HE.out];rfl,below2 (by go_grown) hb,hd⟩
instance:Inhabited Key:=⟨⟨ByteArray.empty,ByteArray.empty,ByteArray.empty⟩⟩
def Dy (k:Key):List Value:=[.string k.name,.string k.domain,.string k.path]
def jA (l:List Key):List Value:=l.flatMap fun k=>[.string k.name,.string k.domain,.string k.path]
theorem UZ:Go.Sort.SWO (ltOf uX):=by
 have e:∀ x y,ltOf uX x y=gy x y:=fun x y=>FI x y;refine ⟨fun x=>by rw [e];exact xk x,fun x y z h k=>?_,fun x y z h k=>?_⟩
 ·rw [e] at h k ⊢;exact pF h k
 ·rw [e] at h k ⊢
  cases hh:gy x z with
  | false=>rfl
  | true =>
    by_cases hxy:x=y
    ·subst hxy;rw [k] at hh;cases hh
    ·have h1:=sJ hxy h
     have h2:=pF h1 hh;rw [k] at h2;cases h2
theorem MG (blk off size:Nat) (w:World):CmpLays prog 143 #[] Dy 3 uX blk off size w :=
 fun _ _ _ _ x y=>(Ob x y _).mono fun _ _ ⟨he,hu⟩=>⟨he,hu.grown⟩
theorem Qx (base:Nat) (v:Value) (ks:List Key) (w:World) (hown:w.ownsRow base 57 3 v ks.length (jA ks)) (hl:ks.length<=1073741824) :
 Calls prog 142 #[v,.func (.func 143) #[] #[]] w fun e w'=>e=.returned (.tuple #[])/\∃ ts:List Key,ts.Perm ks/\Go.Sort.SortedIn gy 0 ts.toArray.size ts.toArray/\w'.ownsRow base 57 3 v ks.length (jA ts)/\Fr (fun k=>v.ownBlock=some k) w w':=by
 rcases hown.2 with ⟨rfl,hz⟩ | ⟨g,cap,cur,rfl,hbase,hgb,r1,r2,r3,r4⟩
 ·obtain rfl:ks=[]:=List.eq_nil_of_length_eq_zero hz
  refine (AnyF.slices_SortFunc_none Tryz.sortKey none 0 _ w).mono ?_
  exact z107
 ·have hH:Go.Sort.HoldsK Dy 3 w g 0 ks.toArray:=vH (k:=3) (fun _=>rfl) (by decide) hgb r4
  have hgl:g<w.heap.size:=(Array.getElem?_eq_some_iff.1 hgb).1;have hc:=AnyQ.slices_SortFunc Tryz.sortKey 3 Tryz.isAgg57 Tryz.sizeOf57 Dy (fun _=>rfl) (fun x v hv=>by simp [Dy] at hv;rcases hv with rfl | rfl | rfl <;> rfl) uX UZ 143 #[] g 0 cap ks.toArray w (enters_of func143 (by kernel_rfl) rfl) (MG g 0 _ w) hH hgl (by simp;omega);rw [List.size_toArray] at hc;refine hc.mono ?_;rintro e w' ⟨rfl,d',n,os,⟨p1,p2,p3⟩,hs,rfl⟩
  refine y77 ?_
  intro hd hsz hperm
  refine ⟨rfl,d'.toList,hperm,?_,?_,?_⟩
  ·have e:ltOf uX=gy:=by funext x y;exact FI x y
   rw [e] at hs;simpa [hsz] using hs
  ·have h9:=pV (enc:=Dy) (k:=3) (ts:=d'.toList) (ss:=ks) (n:=n) (os:=os) (fun _=>rfl) (by decide) (by simpa using hsz) hbase hgb r1 r2 r3
   rw [<- hd] at h9;exact h9
  ·exact (Dn d').mono fun k _ hk=>by subst hk;rfl
theorem Tryz.infoKey:(prog.info? 57).map (fun i=>(i.zero,i.size,i.bytes))=some (some (.agg #[.string ByteArray.empty,.string ByteArray.empty,.string ByteArray.empty]),3,48):=by kernel_rfl
theorem GI (l:List Key) (k:Key):jA (l++[k])=jA l++[.string k.name,.string k.domain,.string k.path]:=by simp [jA]
theorem zu:∀ (l:List Key) (i:Nat) (h:i<l.length),(jA l)[i * 3]?=some (.string l[i].name)/\(jA l)[i * 3+1]?=some (.string l[i].domain)/\(jA l)[i * 3+2]?=some (.string l[i].path)
 | [],i,h=>by simp at h
 | d :: l,0,_=>by simp [jA]
 | d :: l,i+1,h=>by
   have ih:=zu l i (by simpa using h);have e:jA (d :: l)=[.string d.name,.string d.domain,.string d.path]++jA l:=rfl
   exact z71
theorem I4 {w:World} {a:Option Addr} {l:List Key} (h:CellsIn w a (jA l)) {k:Nat} (hk:k<l.length) :
 ∃ A off,a=some ⟨A,off,none⟩/\w.cell? ⟨A,off+k * 3,none⟩=some (.string l[k].name)/\w.cell? ⟨A,off+k * 3+1,none⟩=some (.string l[k].domain)/\w.cell? ⟨A,off+k * 3+2,none⟩=some (.string l[k].path):=by
 obtain ⟨g0,g1,g2⟩:=zu l k hk;rcases h with h | ⟨A,off,h1,h2⟩
 ·rw [h] at g0;simp at g0
 ·exact ⟨A,off,h1,h2 _ _ g0,h2 _ _ g1,h2 _ _ g2⟩
theorem ATab.keyW {w:World} {b:Nat} {A:List (Key×Nat)} (h:ATab w b A):∀ k∈A.map (·.1),KeyW k:=fun k hk=>by
 obtain ⟨p,hp,rfl⟩:=List.mem_map.1 hk;exact h.okk p hp
def XW (s:MS) (w:World) (e:Ending) (w':World):Prop :=
 ∃ (ts:List Key) (a:Option Addr) (ls:List EvIt) (cap:Nat),e=.returned (.slice a ls.length cap)/\EvsIn w' a ls/\evsOf ls=ts.map (fun k=>(gu (keyOfS s k)).1)/\ts.Perm (s.A.map (·.1))/\(ts.Pairwise fun x y=>gy x y=true)/\Below w.heap.size w w'
theorem Gv {m:Nat} {b:MB} {s:MS} (w:World) (h:MpIn w m b s) (hi0:MInv s) :
 Calls prog 96 #[.pointer (some ⟨m,0,none⟩)] w (XW s w):=by
 obtain ⟨i0,hi,hz0,hz1,hz2⟩:=info_parts Tryz.infoKey;obtain ⟨c0,c1,c2,c3⟩:=cZ h.cell;have htab:=h.alive;have HH:=aa h;have HKW:=aa htab.keyW;have HND:Hid ((s.A.map (·.1)).Nodup):=List.pairwise_map.2 htab.apart;have HI:=aa hi0;obtain ⟨iE,hiE,hE0,hE1,hE2⟩:=info_parts Tryz.infoEv;have HBK:=aa (h.low (iL b s.A));have hbd:=(hi0.bounds h).1;clear c0 c2 c3 h;go_enter func96,ntmps96;go_wp2_with (at_range;refine iR sK _ rfl _ 107 rfl 108 underlying107 b.ab rfl htab ?_;intro w0 PV hrg0 hb0 hs0)
 go_frame
 go_loopw [3] (fun v wr=>∃ rest cnt ks,TabIt prog 57 gm KeyW Ld wr b.ab w.heap.size s.A rest cnt/\(ks++rest.map (·.1)).Perm (s.A.map (·.1))/\wr.ownsRow (w.heap.size+1) 57 3 v ks.length (jA ks)/\Below w.heap.size w wr) (fun _ wr=>wr.rangeLeft b.ab w.heap.size)
 case atStart=>exact ⟨s.A,_,[],hrg0,List.Perm.refl _,World.ownsRow_nil _ _ _ _,hb0⟩
 case round =>
  obtain ⟨rest, cnt, ks, hrg, hC, hown, hbw⟩ := hrel
  have hzw : w.heap.size + 1 <= wr.heap.size := by have := hrg.lt; omega
  have HLE := aa hrg.left_eq
  go_wp2_with (at_next;refine iI sK _ rfl _ rfl b.ab w.heap.size cnt rfl hrg ?_ ?_)
  rotate_left
  ·intro x n rest' w2 cnt2 hperm hpm hrg2 hlt hg2 hs2 hen
   have hlen:ks.length<s.A.length:=by
        exact z88
   have HC2:Hid (((ks++[x])++rest'.map (·.1)).Perm (s.A.map (·.1))):=by
        exact z42
   have hNlt:=hrg.lt
   refine y25 ?_
   intro hown2 hb2
   have hsz2:=hg2.size;clear hs2 hown hrg hg2;go_upto_region 7 with fail
   refine aU (fun W3 hW3=>?_);have hb3:Below w2.heap.size w2 W3:=by rw [hW3.out];go_grown
   have y0:W3.cell? ⟨w2.heap.size,0,none⟩=some (.string x.name):=by rw [hW3.out];go_simp
   have y1:W3.cell? ⟨w2.heap.size,1,none⟩=some (.string x.domain):=by rw [hW3.out];go_simp
   have y2:W3.cell? ⟨w2.heap.size,2,none⟩=some (.string x.path):=by rw [hW3.out];go_simp
   clear hW3;have hown3:=ownsRow_below hown2 hb3;have hrg3:=hrg2.kept hb3;have hsz3:=hb3.size;have hbw3:Below w.heap.size w W3:=hb2.trans (hb3.mono hb2.size);clear hown2 hrg2 hb2;go_wp2_with (at_builtin;refine wpList_append_own _ rfl _ _ 220 rfl (w.heap.size+1) 57 i0 (.agg #[.string ByteArray.empty,.string ByteArray.empty,.string ByteArray.empty]) 3 48 underlying220 hi hz0 hz1 hz2 rfl (by decide) _ _ _ rfl (hown3.alloc _) ⟨W3.heap.size,0,none⟩ 1 1 [.string x.name,.string x.domain,.string x.path] rfl rfl (ik _ _ _) (by simp [Value.oneCell']) (by unfold maxLen;omega) (by omega) (by simp;omega) ?_;intro v2 w4 hown4 hgrow _)
   have hb4:Below W3.heap.size W3 (W3.alloc (.cells #[.string x.name,.string x.domain,.string x.path] 57)):=(Below.refl _ _).alloc (al _) _;have hrg4:TabIt prog 57 gm KeyW Ld w4 b.ab w.heap.size s.A rest' cnt2:=by
        have h4:=hrg3.kept hb4;have hlo:b.ab<w.heap.size+1:=by have:=HBK.out;omega
        exact z58
   have HZ:=aa (And.intro (show w4.ownsRow (w.heap.size+1) 57 3 v2 (ks++[x]).length (jA (ks++[x])) by rw [GI,aq];exact hown4) (And.intro hrg4 ((hbw3.trans (hb4.mono hbw3.size)).grown hgrow (by simp;omega) (fun j hj=>by have:=(hown3.lt j hj).1;omega))))
   clear hown4 hrg4 hgrow hown3 hrg3 y0 y1 y2
   go_wp2
   go_roundw
   case rel => exact ⟨rest', cnt2, ks ++ [x], HZ.out.2.1, HC2.out, HZ.out.1, HZ.out.2.2⟩
   case measure => rw [HZ.out.2.1.left_eq, HLE.out]; exact hlt
  ·intro hr0
   subst hr0;have hperm:ks.Perm (s.A.map (·.1)):=by simpa using hC
   have hkl:ks.length<=1073741824:=by have:=hperm.length_eq;simp at this;omega
   obtain ⟨v0,hv0⟩:∃ v0,v0=u3:=⟨_,rfl⟩;rw [<- hv0] at hown ⊢;clear hv0 hrg hC HLE;have HS:=aa (Qx (w.heap.size+1) v0 ks wr hown hkl);have HP:=aa hperm;have HO:=aa hown;clear hown hperm;go_upto_region 9 with (go_at_call 142;(with_reducible refine HS.out.mono ?_);rintro e w1 ⟨rfl,ts,hts,hsrt,Rx,Xl⟩)
   have hb1:Below w.heap.size w w1:=hbw.trans (Xl.below hbw.size (fun k hk=>by have:=(HO.out.lt k hk).1;omega));have htl:ts.length=ks.length:=hts.length_eq;rw [<- htl] at Rx;obtain ⟨aT,cT,rfl,LH,_⟩:=dJ Rx;have hpm:Hid (ts.Perm (s.A.map (·.1))):=hts.trans HP.out;have HSr:Hid (ts.Pairwise fun x y=>gy x y=true):=by
        have h5:=pR (lt:=gy) (fun x y h k=>sJ h k) (d:=ts.toArray) hsrt (by
         simp only [];exact (hpm.out.nodup_iff).2 HND.out)
        unfold Hid;simpa using h5
   have htk:ts.length<=1073741824:=by omega
   have hm1:=HH.out.kept_w hb1;clear Rx Xl hsrt hts HS HO HP hkl hbw htl;go_wp2;go_loopw [29,5] (fun i v wq=>∃ (k:Nat) (ls:List EvIt),i=.int .i64 k/\k<=ts.length/\EvsGr w1.heap.size v ls wq/\evsOf ls=(ts.take k).map (fun k=>(gu (keyOfS s k)).1)/\Below w1.heap.size w1 wq) (fun i _ _=>ts.length - (intOf i).toNat)
   case atStart=>exact ⟨0,[],rfl,Nat.zero_le _,EvsGr.nil _ _,rfl,Below.refl _ _⟩
   case round =>
        obtain ⟨k,ls,rfl,hk,hgr,hev,hbr⟩:=hrel;have HEV:=aa hev;clear hev;by_cases hlt:k<ts.length
        ·obtain ⟨A,off,rfl,c0,c1,c2⟩:=I4 (LH.kept hbr) hlt
         have hkw:=HKW.out _ (hpm.out.mem_iff.1 (List.getElem_mem hlt));have hzr:=hbr.size;have hr:=hm1.kept_w hbr;have HT:Hid ((ts.take (k+1)).map (fun k=>(gu (keyOfS s k)).1)=(ts.take k).map (fun k=>(gu (keyOfS s k)).1)++[(gu (keyOfS s ts[k])).1]):=by
          unfold Hid;rw [List.take_add_one,List.getElem?_eq_getElem hlt,List.map_append];rfl
         have HLT:=aa hlt;have hlk:ls.length=k:=by
          exact z141
         have hkl:k<=1073741824:=by omega
         generalize ts[k]=x at *;have HW:=aa (fun (X:World) (h:MpIn X m b s)=>Gw x hkw X h HI.out);go_upto_region 13 with fail
         refine aU (fun V hV=>?_);have hbV:Below wr.heap.size wr V:=by rw [hV.out];go_grown
         have y0:V.cell? ⟨wr.heap.size,0,none⟩=some (.string x.name):=by rw [hV.out];go_simp
         have y1:V.cell? ⟨wr.heap.size,1,none⟩=some (.string x.domain):=by rw [hV.out];go_simp
         have y2:V.cell? ⟨wr.heap.size,2,none⟩=some (.string x.path):=by rw [hV.out];go_simp
         have hmV:=hr.kept_w hbV;have hgV:=hgr.kept hbV;have TP:Below w1.heap.size w1 V:=hbr.trans (hbV.mono hzr);clear hV hbV hr hgr c0 c1 c2 hkw;generalize (gu (keyOfS s x))=R at *;go_upto_region 14 with (first
          | (go_at_call 145;(with_reducible refine (HW.out _ hmV).mono ?_);rintro v w4 ⟨aw,cw,rfl,hdw,htw,hb4⟩)
          | (refine bH 61 _ _ _ (ai R.1 aw cw).toArray rfl rfl (by kernel_rfl) rfl (by kernel_rfl) ?_))
         refine aU (fun V5 hV5=>?_);have hbA:Below w4.heap.size w4 V5:=by rw [hV5.out];exact (Below.refl w4.heap.size w4).alloc (al _) _
         have hR5:V5.rangeAt w4.heap.size 0 (ai R.1 aw cw):=by rw [hV5.out];exact dB R.1 aw cw w4 61
         have hgr5:=(hgV.kept hb4).kept hbA;have hd5:=hdw.kept hbA;have ht5:=htw.kept hbA;have hb5:Below w1.heap.size w1 V5:=(TP.trans (hb4.mono TP.size)).trans (hbA.mono (Nat.le_trans TP.size hb4.size));generalize w4.heap.size=B4 at *;have HR:=aa (And.intro hd5 (And.intro ht5 (And.intro hgr5 hb5)));have hown5:=hgr5.own;have hz5:=hb5.size;clear hV5 hbA hgV hdw htw hb4 TP hmV y0 y1 y2 hd5 ht5 hgr5 hb5;go_wp2_with (first
          | ((with_reducible refine bg _ B4 0 R.1 aw cw hR5 ?_ rfl ?_);exact rfl)
          | (refine wpList_buildOne rfl 24 61 _ rfl (ai R.1 aw cw).toArray 19 rfl rfl (by decide) (by decide) underlying24 (by kernel_rfl) (by kernel_rfl) ?_)
          | (at_builtin;go_loud (refine wpList_append_own_at _ rfl _ _ 24 rfl w1.heap.size 61 iE (.agg (ai ev0 none 0).toArray) 19 176 underlying24 hiE hE0 hE1 hE2 rfl (by decide) _ _ _ rfl (hown5.alloc _) ⟨V5.heap.size,0,none⟩ 1 1 (ai R.1 aw cw) rfl rfl (xH V5 R.1 aw cw _) (dA _ _ _) (by unfold maxLen;omega) (by omega) (by simp;omega) ?_)))
         intro v' wf nD hgrow _ _;have hal:Below V5.heap.size V5 (V5.alloc (Obj.cells (ai R.1 aw cw).toArray 61)):=(Below.refl _ _).alloc (al _) _;obtain ⟨hd5,ht5,hgr5,hb5⟩:=HR.out;have hgN:=EvsGr.app (x:=(R.1,aw,cw)) (hgr5.kept hal) (show wf.ownsRow w1.heap.size 61 19 v' (ls.length+1) (aQ ls++kX (R.1,aw,cw)) by rw [hlk];exact nD) hgrow (hd5.kept hal) (ht5.kept hal);have hbF:Below w1.heap.size w1 wf:=(hb5.trans (hal.mono hz5)).grown hgrow (by have:=hal.size;omega) (fun j hj=>(hown5.lt j hj).1);have HZ:=aa (And.intro hgN hbF);clear hgN hbF nD hgrow hal hown5 hR5 hd5 ht5 hgr5 hb5;go_wp2;go_roundw
         case rel=>exact ⟨k+1,ls++[(R.1,aw,cw)],by go_num,HLT.out,HZ.out.1,by
          rw [HT.out,<- HEV.out];show (ls++[(R.1,aw,cw)]).map (·.1)=_;rw [List.map_append];rfl,HZ.out.2⟩
         case measure => exact z64
        ·obtain rfl:k=ts.length:=by omega
         obtain ⟨aF,cF,rfl,hF⟩:=hgr.evs;have hE:evsOf ls=ts.map (fun k=>(gu (keyOfS s k)).1):=by
          have hE0:=HEV.out;rwa [List.take_length] at hE0
         have HE:=aa hE;clear hE hgr;go_wp2;all_goals
          go_ret;exact ⟨ts,aF,ls,cF,rfl,hF,HE.out,hpm.out,HSr.out,hb1.trans (hbr.mono hb1.size)⟩
end Go.Proofs.YtffobmpeeopadaaGreat
