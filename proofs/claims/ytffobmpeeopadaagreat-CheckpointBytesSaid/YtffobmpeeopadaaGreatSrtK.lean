/- The orders of dots and actors as functions for a sort: what they leave behind. Conditions: none. -/
import Derived.Test.YtffobmpeeopadaaGreatCel
import Derived.Sort.Grow
import Derived.Deep.Draws
import Derived.Test.YtffobmpeeopadaaGreatVec
import Derived.Sort.Statements
import Derived.Shelf.SlSortCmp.Insertion
import Derived.Test.YtffobmpeeopadaaGreatMark
import Derived.Test.YtffobmpeeopadaaGreatSrt
import Derived.Shelf.SlSortCmp.NoneTotal
import Derived.Test.YtffobmpeeopadaaGreatEq
import Derived.Test.YtffobmpeeopadaaGreatLast
import Derived.Test.YtffobmpeeopadaaGreatClone
set_option linter.unusedSimpArgs false
set_option linter.unusedVariables false
set_option linter.unnecessarySimpa false
set_option maxHeartbeats 16000000
set_option maxRecDepth 100000
open Go.Proofs.Tryz
namespace Go.Proofs.YtffobmpeeopadaaGreat
open Go.RowKit
/-- nothing that was there has turned; draws alone -/
structure Up (w w':World):Prop where
 below:Below w.heap.size w w'
 drawn:w.drawn<=w'.drawn
theorem Up.grown {w w':World} (h:Up w w'):∃ q os,w'=Go.Sort.grow (w.drewN q) os:=by
 obtain ⟨⟨h1,h2,h3,h4,h5⟩,h6⟩:=h;refine ⟨w'.drawn - w.drawn,w'.heap.extract w.heap.size w'.heap.size,?_⟩;obtain ⟨hp,tp,dr,os,out⟩:=w';obtain ⟨hp0,tp0,dr0,os0,YL⟩:=w;simp only [Go.Sort.grow,World.drewN] at *;subst h1 h2 h3;simp only [World.mk.injEq,true_and,and_true];refine ⟨?_,by omega⟩;apply Array.ext_getElem?;intro k;rw [Array.getElem?_append];split
 ·rename_i hk;exact h5 k hk
 ·rename_i hk
  rw [Array.getElem?_extract];split
  ·congr 1;omega
  ·rename_i hlt
   exact Array.getElem?_eq_none (by omega)
theorem Up.refl (w:World):Up w w:=⟨Below.refl _ _,al _⟩
theorem Up.trans {a b c:World} (h:Up a b) (k:Up b c):Up a c:=⟨below2 h.below k.below,Nat.le_trans h.drawn k.drawn⟩
theorem zK (a b:Actor) (w:World) :
 Calls prog 167 #[.agg #[.int .i64 a.dev,.int .i64 a.inc],.agg #[.int .i64 b.dev,.int .i64 b.inc]] w fun e w'=>e=.returned (.int .i64 (eP a b))/\Up w w':=by
 go_enter func167,ntmps167;go_wp2;go_region_held3 (fun w'=>w'.cell? ⟨w.heap.size,0,none⟩=some (.int .i64 a.dev)/\w'.cell? ⟨w.heap.size,1,none⟩=some (.int .i64 a.inc)/\w'.cell? ⟨w.heap.size+1,0,none⟩=some (.int .i64 b.dev)/\w'.cell? ⟨w.heap.size+1,1,none⟩=some (.int .i64 b.inc)) (go_keep)
  (first
   | (go_at_call 196;refine (kV _ _ _).mono ?_;rintro e w1 ⟨rfl,rfl⟩)
   | (go_at_call 195;go_call yA (mO a.dev b.dev) (mO a.inc b.inc) as e w1 ⟨rfl,rfl⟩))
 go_wp2;go_ret;exact ⟨rfl,by go_grown,Nat.le_succ _⟩
theorem QP (a b:Dot) (w:World) :
 Calls prog 165 #[.agg #[.int .i64 a.a.dev,.int .i64 a.a.inc,.int .i64 a.seq],.agg #[.int .i64 b.a.dev,.int .i64 b.a.inc,.int .i64 b.seq]] w fun e w'=>e=.returned (.int .i64 (oO a b))/\Up w w':=by
 go_enter func165,ntmps165;go_wp2;go_region_held3 (fun w'=>w'.cell? ⟨w.heap.size,0,none⟩=some (.int .i64 a.a.dev)/\w'.cell? ⟨w.heap.size,1,none⟩=some (.int .i64 a.a.inc)/\w'.cell? ⟨w.heap.size,2,none⟩=some (.int .i64 a.seq)/\w'.cell? ⟨w.heap.size+1,0,none⟩=some (.int .i64 b.a.dev)/\w'.cell? ⟨w.heap.size+1,1,none⟩=some (.int .i64 b.a.inc)/\w'.cell? ⟨w.heap.size+1,2,none⟩=some (.int .i64 b.seq)) (first | (refine ⟨?_,?_,?_,?_,?_,?_⟩ <;> ((with_reducible refine kept hb ?_);simp [*];done)) | go_keep)
  (first
   | (go_at_call 196;refine (kV _ _ _).mono ?_;rintro e w1 ⟨rfl,rfl⟩)
   | (go_at_call 167;refine (zK a.a b.a _).mono ?_;rintro e w1 ⟨rfl,hb,hd⟩)
   | (go_at_call 195;go_call yA (eP a.a b.a) (mO a.seq b.seq) as e w2 ⟨rfl,rfl⟩))
 go_wp2;go_ret;have h0:Below w.heap.size w ((w.alloc (Obj.cells #[.int .i64 a.a.dev,.int .i64 a.a.inc,.int .i64 a.seq] 55)).alloc (Obj.cells #[.int .i64 b.a.dev,.int .i64 b.a.inc,.int .i64 b.seq] 55)).drew:=by go_grown
 refine ⟨rfl,(h0.trans (hb.mono h0.size)).alloc (by have:=(below2 h0 hb).size;omega) _,?_⟩;have hd':w.drawn+1<=w1.drawn:=hd;show w.drawn<=w1.drawn;omega
theorem KD (a b:Dot) (w:World):Calls prog 164 #[bV a,bV b] w fun e w'=>e=.returned (.int .i64 (oO a b))/\Up w w':=by
 have HO:=aa (fun X=>QP a b X);go_enter func164,ntmps164;go_wp2_with (go_at_call 165;(with_reducible refine (HO.out _).mono ?_);rintro e w1 ⟨rfl,hb⟩)
 go_ret;exact ⟨rfl,below2 (by go_grown) hb.below,hb.drawn⟩
theorem F5 (a b:Actor) (w:World):Calls prog 201 #[fF a,fF b] w fun e w'=>e=.returned (.int .i64 (eP a b))/\Up w w':=by
 have HO:=aa (fun X=>zK a b X);go_enter func201,ntmps201;go_wp2_with (go_at_call 167;(with_reducible refine (HO.out _).mono ?_);rintro e w1 ⟨rfl,hb⟩)
 go_ret;exact ⟨rfl,below2 (by go_grown) hb.below,hb.drawn⟩
end Go.Proofs.YtffobmpeeopadaaGreat
/- Sorted lists, plainly: dots each once; what a sort leaves. Conditions: none. -/
namespace Go.Proofs.YtffobmpeeopadaaGreat
open Go.RowKit
/-- strictly rising lists with the same members are one -/
theorem Ak {α:Type} {lt:α->α->Bool} (irr:∀ x,lt x x=false) (tr:∀ x y z,lt x y=true->lt y z=true->lt x z=true) :
 ∀ {l m:List α},l.Pairwise (fun x y=>lt x y=true)->m.Pairwise (fun x y=>lt x y=true)->(∀ x,x∈l↔x∈m)->l=m
 | [],[],_,_,_=>rfl
 | [],b :: s,_,_,h=>by have:=(h b).2 (by simp);simp at this
 | a :: r,[],_,_,h=>by have:=(h a).1 (by simp);simp at this
 | a :: r,b :: s,h1,h2,h=>by
   obtain ⟨a1,a2⟩:=List.pairwise_cons.1 h1;obtain ⟨b1,b2⟩:=List.pairwise_cons.1 h2;have hab:a=b:=by
     rcases List.mem_cons.1 ((h a).1 (by simp)) with e | ha
     ·exact e
     ·rcases List.mem_cons.1 ((h b).2 (by simp)) with e | hb
      ·exact e.symm
      ·have:=tr _ _ _ (a1 b hb) (b1 a ha)
       rw [irr] at this
       cases this
   subst hab;rw [Ak irr tr a2 b2 (fun p=>⟨fun hp=>by
     rcases List.mem_cons.1 ((h p).1 (by simp [hp])) with e | hp'
     ·have:=a1 p hp
      rw [e,irr] at this
      cases this
     ·exact hp',fun hp=>by
     rcases List.mem_cons.1 ((h p).2 (by simp [hp])) with e | hp'
     ·have:=b1 p hp
      rw [e,irr] at this
      cases this
     ·exact hp'⟩)]
theorem fA (d:Dot):df d d=false:=by unfold df bJ;simp
theorem jb {a b c:Dot} (h:df a b=true) (k:df b c=true):df a c=true:=by
 unfold df bJ at *;simp only [Bool.or_eq_true,Bool.and_eq_true,decide_eq_true_eq] at *;omega
theorem pJ {a b:Dot} (h:a≠b) (k:df a b=false):df b a=true:=by
 unfold df bJ at *;simp only [Bool.or_eq_true,Bool.or_eq_false_iff,Bool.and_eq_true,Bool.and_eq_false_iff,decide_eq_true_eq,decide_eq_false_iff_not] at *;have:¬ (a.a.dev=b.a.dev/\a.a.inc=b.a.inc/\a.seq=b.seq):=fun e=>h (by obtain ⟨⟨a1,a2⟩,a3⟩:=a;obtain ⟨⟨b1,b2⟩,b3⟩:=b;simp_all);omega
def SrtD (l:List Dot):Prop:=l.Pairwise fun x y=>df x y=true
/-- one dot more, in its place, once -/
def jR (d:Dot):List Dot->List Dot
 | []=>[d]
 | x :: l=>if df x d=true then x :: jR d l else if x=d then x :: l else d :: x :: l
def sortD (l:List Dot):List Dot:=l.foldl (fun o d=>jR d o) []
theorem z57 {p : Prop} (h : p := by
 rintro (h | h | h)
 ·exact Or.inr (Or.inl h)
 ·exact Or.inl h
 ·exact Or.inr (Or.inr h)) : p := h
theorem CX {d:Dot}:∀ {l:List Dot} {x:Dot},x∈jR d l↔x=d\/x∈l
 | [],x=>by simp [jR]
 | y :: l,x=>by
   unfold jR;split
   ·rw [List.mem_cons,CX,List.mem_cons]
    constructor
    ·exact z57
    ·exact z57
   ·split
    ·rename_i h
     subst h;simp
    ·simp
theorem Jb {d:Dot}:∀ {l:List Dot},SrtD l->SrtD (jR d l)
 | [],_=>by simp [jR,SrtD]
 | x :: l,h=>by
   obtain ⟨h1,h2⟩:=List.pairwise_cons.1 h;unfold jR;split
   ·rename_i hlt
    refine List.pairwise_cons.2 ⟨fun y hy=>?_,Jb h2⟩;rcases CX.1 hy with rfl | hy
    ·exact hlt
    ·exact h1 y hy
   ·rename_i hlt
    split
    ·exact h
    ·rename_i hne
     have hdx:=pJ hne (Bool.eq_false_iff.2 hlt);refine List.pairwise_cons.2 ⟨fun y hy=>?_,h⟩;rcases List.mem_cons.1 hy with rfl | hy
     ·exact hdx
     ·exact jb hdx (h1 y hy)
theorem Fa:∀ (l:List Dot) {o:List Dot},SrtD o->SrtD (l.foldl (fun o d=>jR d o) o)
 | [],_,h=>h
 | _ :: l,_,h=>Fa l (Jb h)
theorem Fb:∀ (l:List Dot) {o:List Dot} {x:Dot},x∈l.foldl (fun o d=>jR d o) o↔x∈o\/x∈l
 | [],o,x=>by simp
 | d :: l,o,x=>by
   rw [List.foldl_cons,Fb l,CX,List.mem_cons];constructor
   ·rintro ((h | h) | h)
    ·exact Or.inr (Or.inl h)
    ·exact Or.inl h
    ·exact Or.inr (Or.inr h)
   ·rintro (h | h | h)
    ·exact Or.inl (Or.inr h)
    ·exact Or.inl (Or.inl h)
    ·exact Or.inr h
theorem jm (l:List Dot):SrtD (sortD l):=Fa l List.Pairwise.nil
theorem dm {l:List Dot} {x:Dot}:x∈sortD l↔x∈l:=by unfold sortD;rw [Fb];simp
theorem AY {l m:List Dot} (h:SrtD l) (k:SrtD m) (e:∀ x,x∈l↔x∈m):l=m:=Ak fA (fun _ _ _=>jb) h k e
theorem SrtD.nodup {l:List Dot} (h:SrtD l):l.Nodup:=h.imp fun {a b} hab e=>by rw [e,fA] at hab;cases hab
theorem KE {l:List Dot} (h:SrtD l):sortD l=l:=AY (jm l) h fun _=>dm
theorem zy (d:Dot):∀ l:List Dot,(jR d l).length<=l.length+1
 | []=>by simp [jR]
 | x :: l=>by
   have:=zy d l;unfold jR;split
   ·simp only [List.length_cons];omega
   ·split <;> simp
theorem xC:∀ (l o:List Dot),(l.foldl (fun o d=>jR d o) o).length<=o.length+l.length
 | [],o=>by simp
 | d :: l,o=>by
   have h1:=xC l (jR d o);have h2:=zy d o;simp only [List.foldl_cons,List.length_cons];omega
theorem fO (l:List Dot):(sortD l).length<=l.length:=by have:=xC l [];simpa [sortD] using this
theorem DL (a b:Dot):decide (oO a b<0)=df a b:=FK a b
theorem xR (a b:Actor):decide (eP a b<0)=bJ a b:=by
 unfold eP mO orI bJ;rw [Bool.eq_iff_iff];simp only [Bool.or_eq_true,Bool.and_eq_true,decide_eq_true_eq];repeat' split
 all_goals omega
/-- what a sort of unlike elements leaves is strictly rising -/
theorem pR {α:Type} [Inhabited α] {lt:α->α->Bool} (tot:∀ x y,x≠y->lt x y=false->lt y x=true) {d:Array α} (h:Go.Sort.SortedIn lt 0 d.size d) (hn:d.toList.Nodup):d.toList.Pairwise fun x y=>lt x y=true:=by
 rw [List.pairwise_iff_getElem];intro i j hi hj hij;have hi':i<d.size:=by simpa using hi
 have hj':j<d.size:=by simpa using hj
 have h1:=h i j (Nat.zero_le _) hij hj';rw [getElem!_pos d j hj',getElem!_pos d i hi'] at h1;have hne:d.toList[i]≠d.toList[j]:=List.pairwise_iff_getElem.1 hn i j hi hj hij;simp only [Array.getElem_toList] at hne ⊢;exact tot _ _ hne.symm h1
end Go.Proofs.YtffobmpeeopadaaGreat
/- slices.SortFunc at a slice of one's own: dots, actors. Conditions: fewer than 2^30. -/
namespace Go.Proofs.YtffobmpeeopadaaGreat
open Go.RowKit Go.Shelf
section
variable {α:Type} [Inhabited α] {enc:α->List Value} {k:Nat}
theorem flat_get (hk:∀ x,(enc x).length=k) (k0:0<k):∀ (l:List α) (t:Nat),t<l.length * k->(l.flatMap enc)[t]?=some ((enc l[t / k]!)[t % k]!)
 | [],t,h=>by simp at h
 | x :: l,t,h=>by
   rw [List.flatMap_cons];by_cases ht:t<k
   ·rw [List.getElem?_append_left (by rw [hk];exact ht),Nat.div_eq_of_lt ht,Nat.mod_eq_of_lt ht]
    have hlt:t<(enc x).length:=by rw [hk];exact ht
    simp [hlt]
   ·have ht':k<=t:=by omega
    rw [List.getElem?_append_right (by rw [hk];exact ht'),hk];have h2:t - k<l.length * k:=by
        simp only [List.length_cons,Nat.add_mul,Nat.one_mul] at h;omega
    rw [flat_get hk k0 l (t - k) h2];obtain ⟨u,rfl⟩:∃ u,t=u+k:=⟨t - k,by omega⟩;rw [Nat.add_sub_cancel,Nat.add_div_right u k0,Nat.add_mod_right];simp
theorem Fg (hk:∀ x,(enc x).length=k) (k0:0<k) (l:List α) (t:Nat) (h:t<l.length * k):(l.flatMap enc)[t]?=some (Go.Sort.flatK enc k l.toArray)[t]!:=by
 rw [flat_get hk k0 l t h,Go.Sort.get_flatK _ _ _ _ (by simpa using h)];simp
omit [Inhabited α] in
theorem tC (hk:∀ x,(enc x).length=k):∀ l:List α,(l.flatMap enc).length=l.length * k
 | []=>by simp
 | x :: l=>by rw [List.flatMap_cons,aq,tC hk l,hk,List.length_cons,Nat.add_mul,Nat.one_mul,Nat.add_comm]
theorem vH (hk:∀ x,(enc x).length=k) (k0:0<k) {w:World} {g:Nat} {cur:Array Value} {e:TypeId} {l:List α} (hb:w.heap[g]?=some (.cells cur e (0,0))) (ht:cur.toList.take (l.length * k)=l.flatMap enc):Go.Sort.HoldsK enc k w g 0 l.toArray:=by
 intro j hj;have hj':j<l.length * k:=by simpa using hj
 refine ⟨?_,by simp [World.frozen?,hb]⟩;have h1:(cur.toList.take (l.length * k))[j]?=(l.flatMap enc)[j]?:=by rw [ht]
 rw [List.getElem?_take_of_lt hj',Fg hk k0 l j hj'] at h1;simp only [World.cell?,hb,ar];simp only [Option.isSome_none,Bool.false_eq_true,if_false];rw [<- Array.getElem?_toList,h1];rfl
theorem LP {w:World} {g n:Nat} {os:Array Obj} {cur:Array Value} {e:TypeId} {fr:Nat×Nat} (d:Array α) (hb:w.heap[g]?=some (.cells cur e fr)) :
 (sortWorldK enc k w g 0 n d os).heap[g]?=some (.cells (Go.Sort.putCells id 0 (Go.Sort.flatK enc k d) cur) e fr):=by
 have hg:g<w.heap.size:=(Array.getElem?_eq_some_iff.1 hb).1;unfold sortWorldK Go.Sort.putRowK;rw [Go.Sort.heap_grow_old _ _ (by simpa [Go.Sort.putRow,Go.Sort.mapBlock,Go.Sort.ahead] using hg)];simp [Go.Sort.putRow,Go.Sort.mapBlock,Go.Sort.ahead,Array.getElem?_modify,hb,Go.Sort.onCells]
theorem Dn {w:World} {g n:Nat} {os:Array Obj} (d:Array α):Fr (isR g) w (sortWorldK enc k w g 0 n d os):=by
 unfold sortWorldK Go.Sort.putRowK;refine ⟨rfl,rfl,rfl,by simp [Go.Sort.putRow,Go.Sort.mapBlock,Go.Sort.ahead],fun j hj hne=>?_⟩;rw [Go.Sort.heap_grow_old _ _ (by simpa [Go.Sort.putRow,Go.Sort.mapBlock,Go.Sort.ahead] using hj)];have:g≠j:=fun e=>hne e.symm;simp [Go.Sort.putRow,Go.Sort.mapBlock,Go.Sort.ahead,Array.getElem?_modify,this]
theorem Oi (hk:∀ x,(enc x).length=k) (k0:0<k) (cur:Array Value) (l:List α) (h:l.length * k<=cur.size):(Go.Sort.putCells id 0 (Go.Sort.flatK enc k l.toArray) cur).toList.take (l.length * k)=l.flatMap enc:=by
 apply List.ext_getElem?;intro j;by_cases hj:j<l.length * k
 ·have hjc:j<cur.size:=by omega
  have hjf:j<(Go.Sort.flatK enc k l.toArray).size:=by simpa using hj
  rw [List.getElem?_take_of_lt hj,Array.getElem?_toList,Fg hk k0 l j hj];simp only [Go.Sort.putCells,Array.getElem?_mapIdx,Array.getElem?_eq_getElem hjc,Option.map_some,ar,Nat.zero_le,true_and,if_pos hjf,Nat.sub_zero,id]
 ·rw [List.getElem?_take_eq_none (by omega),List.getElem?_eq_none (by rw [tC hk];omega)]
theorem pV (hk:∀ x,(enc x).length=k) (k0:0<k) {w:World} {base g cap n:Nat} {e:TypeId} {os:Array Obj} {cur:Array Value} {ss ts:List α} (hl:ts.length=ss.length) (hbase:base<=g) (hb:w.heap[g]?=some (.cells cur e (0,0)))
 (h1:ss.length<=cap) (h2:cap<=maxLen) (h3:cur.size=cap * k) :
 (sortWorldK enc k w g 0 n ts.toArray os).ownsRow base e k (.slice (some ⟨g,0,none⟩) ss.length cap) ss.length (ts.flatMap enc) :=
 ⟨by rw [tC hk,hl],.inr ⟨g,cap,_,rfl,hbase,LP _ hb,h1,h2,by simp [Go.Sort.putCells,h3],by
  rw [<- hl];exact Oi hk k0 cur ts (by rw [hl,h3];exact Nat.mul_le_mul_right k h1)⟩⟩
end
instance:Inhabited Actor:=⟨⟨0,0⟩⟩
instance:Inhabited Dot:=⟨⟨⟨0,0⟩,0⟩⟩
def Dz (d:Dot):List Value:=[.int .i64 d.a.dev,.int .i64 d.a.inc,.int .i64 d.seq]
def tV (a:Actor):List Value:=[.int .i64 a.dev,.int .i64 a.inc]
theorem U0:Go.Sort.SWO (ltOf oO):=by
 have e:∀ x y,ltOf oO x y=df x y:=fun x y=>DL x y;refine ⟨fun x=>by rw [e];exact fA x,fun x y z h k=>?_,fun x y z h k=>?_⟩
 ·rw [e] at h k ⊢;exact jb h k
 ·rw [e] at h k ⊢
  cases hh:df x z with
  | false=>rfl
  | true =>
    by_cases hxy:x=y
    ·subst hxy;rw [k] at hh;cases hh
    ·have h1:=pJ hxy h
     have h2:=jb h1 hh;rw [k] at h2;cases h2
theorem Qw:Go.Sort.SWO (ltOf eP):=by
 have e:∀ x y,ltOf eP x y=bJ x y:=fun x y=>xR x y;refine ⟨fun x=>by rw [e];exact dH x,fun x y z h k=>?_,fun x y z h k=>?_⟩
 ·rw [e] at h k ⊢;exact jv h k
 ·rw [e] at h k ⊢
  cases hh:bJ x z with
  | false=>rfl
  | true =>
    by_cases hxy:x=y
    ·subst hxy;rw [k] at hh;cases hh
    ·have h1:=mf hxy h
     have h2:=jv h1 hh;rw [k] at h2;cases h2
theorem MH (blk off size:Nat) (w:World):CmpLays prog 164 #[] Dz 3 oO blk off size w :=
 fun _ _ _ _ x y=>(KD x y _).mono fun _ _ ⟨he,hu⟩=>⟨he,hu.grown⟩
theorem z107 {p : Prop} (h : p := by
 rintro e w' ⟨rfl, rfl⟩
 exact ⟨rfl, [], List.Perm.refl _, fun i j _ _ h => by simp at h, hown, Fr.refl _ _⟩) : p := h
theorem z92 {p : Prop} (h : p := by
 have := p3
 rwa [show d'.extract 0 ks.length = d' by rw [<- hsz]; simp, show ks.toArray.extract 0 ks.length = ks.toArray by simp] at this) : p := h
theorem y77 {p q : Prop} (k : q) (h : PLift q -> p := by
 intro kk
 have hd : d' = d'.toList.toArray := by simp
 have hsz : d'.size = ks.length := by simpa using p1
 have hperm : d'.toList.Perm ks := by
  exact z92
 revert hd hsz hperm
 exact kk.down) : p := h ⟨k⟩
theorem Qy (base:Nat) (v:Value) (ks:List Dot) (w:World) (hown:w.ownsRow base 55 3 v ks.length (aN ks)) (hl:ks.length<=1073741824) :
 Calls prog 193 #[v,.func (.func 164) #[] #[]] w fun e w'=>e=.returned (.tuple #[])/\∃ ts:List Dot,ts.Perm ks/\Go.Sort.SortedIn df 0 ts.toArray.size ts.toArray/\w'.ownsRow base 55 3 v ks.length (aN ts)/\Fr (fun k=>v.ownBlock=some k) w w':=by
 rcases hown.2 with ⟨rfl,hz⟩ | ⟨g,cap,cur,rfl,hbase,hgb,r1,r2,r3,r4⟩
 ·obtain rfl:ks=[]:=List.eq_nil_of_length_eq_zero hz
  refine (AnyF.slices_SortFunc_none Tryz.sortDot none 0 _ w).mono ?_
  exact z107
 ·have hH:Go.Sort.HoldsK Dz 3 w g 0 ks.toArray:=vH (k:=3) (fun _=>rfl) (by decide) hgb r4
  have hgl:g<w.heap.size:=(Array.getElem?_eq_some_iff.1 hgb).1;have hc:=AnyQ.slices_SortFunc Tryz.sortDot 3 Tryz.isAgg55 Tryz.sizeOf55 Dz (fun _=>rfl) (fun x v hv=>by simp [Dz] at hv;rcases hv with rfl | rfl | rfl <;> rfl) oO U0 164 #[] g 0 cap ks.toArray w (enters_of func164 (by kernel_rfl) rfl) (MH g 0 _ w) hH hgl (by simp;omega);rw [List.size_toArray] at hc;refine hc.mono ?_;rintro e w' ⟨rfl,d',n,os,⟨p1,p2,p3⟩,hs,rfl⟩
  refine y77 ?_
  intro hd hsz hperm
  refine ⟨rfl,d'.toList,hperm,?_,?_,?_⟩
  ·have e:ltOf oO=df:=by funext x y;exact DL x y
   rw [e] at hs;simpa [hsz] using hs
  ·have h9:=pV (enc:=Dz) (k:=3) (ts:=d'.toList) (ss:=ks) (n:=n) (os:=os) (fun _=>rfl) (by decide) (by simpa using hsz) hbase hgb r1 r2 r3
   rw [<- hd] at h9;exact h9
  ·exact (Dn d').mono fun k _ hk=>by subst hk;rfl
theorem G5 (blk off size:Nat) (w:World):CmpLays prog 201 #[] tV 2 eP blk off size w :=
 fun _ _ _ _ x y=>(F5 x y _).mono fun _ _ ⟨he,hu⟩=>⟨he,hu.grown⟩
theorem KC (base:Nat) (v:Value) (ks:List Actor) (w:World) (hown:w.ownsRow base 53 2 v ks.length (iQ ks)) (hl:ks.length<=1073741824) :
 Calls prog 239 #[v,.func (.func 201) #[] #[]] w fun e w'=>e=.returned (.tuple #[])/\∃ ts:List Actor,ts.Perm ks/\Go.Sort.SortedIn bJ 0 ts.toArray.size ts.toArray/\w'.ownsRow base 53 2 v ks.length (iQ ts)/\Fr (fun k=>v.ownBlock=some k) w w':=by
 rcases hown.2 with ⟨rfl,hz⟩ | ⟨g,cap,cur,rfl,hbase,hgb,r1,r2,r3,r4⟩
 ·obtain rfl:ks=[]:=List.eq_nil_of_length_eq_zero hz
  refine (AnyF.slices_SortFunc_none Tryz.sortActor none 0 _ w).mono ?_
  exact z107
 ·have hH:Go.Sort.HoldsK tV 2 w g 0 ks.toArray:=vH (k:=2) (fun _=>rfl) (by decide) hgb r4
  have hgl:g<w.heap.size:=(Array.getElem?_eq_some_iff.1 hgb).1;have hc:=AnyQ.slices_SortFunc Tryz.sortActor 2 Tryz.isAgg53 Tryz.sizeOf53 tV (fun _=>rfl) (fun x v hv=>by simp [tV] at hv;rcases hv with rfl | rfl <;> rfl) eP Qw 201 #[] g 0 cap ks.toArray w (enters_of func201 (by kernel_rfl) rfl) (G5 g 0 _ w) hH hgl (by simp;omega);rw [List.size_toArray] at hc;refine hc.mono ?_;rintro e w' ⟨rfl,d',n,os,⟨p1,p2,p3⟩,hs,rfl⟩
  refine y77 ?_
  intro hd hsz hperm
  refine ⟨rfl,d'.toList,hperm,?_,?_,?_⟩
  ·have e:ltOf eP=bJ:=by funext x y;exact xR x y
   rw [e] at hs;simpa [hsz] using hs
  ·have h9:=pV (enc:=tV) (k:=2) (ts:=d'.toList) (ss:=ks) (n:=n) (os:=os) (fun _=>rfl) (by decide) (by simpa using hsz) hbase hgb r1 r2 r3
   rw [<- hd] at h9;exact h9
  ·exact (Dn d').mono fun k _ hk=>by subst hk;rfl
end Go.Proofs.YtffobmpeeopadaaGreat
/- The sorted keys of a map; dot.Sort. Conditions: at most 2^30 of them. -/
namespace Go.Proofs.YtffobmpeeopadaaGreat
open Go.RowKit Go.Shelf
theorem IZ (mb:Option Nat) (w:World):Calls prog 163 #[.map mb] w fun e w'=>e=.returned (.func (.func 194) #[] #[.pointer (some ⟨w.heap.size,0,none⟩)])/\w'=w.alloc (.cells #[.map mb] 108):=by
 go_enter func163,ntmps163;go_wp2;go_ret;exact ⟨rfl,rfl⟩
theorem z140 {p : Prop} (h : p := by
 rw [HP.out.2]
 constructor
 ·intro h; subst h; exact List.Perm.eq_nil hts
 ·intro h; subst h; exact (List.Perm.eq_nil hts.symm)) : p := h
theorem D8 {β:Type} {vv:β->Value} (Bm b:Nat) (m:List (Dot×β)) (w:World) (hBm:Bm<w.heap.size) (hm:w.cell? ⟨Bm,0,none⟩=some (.map (some b))) (htab:Tab prog 55 bV DotW vv w b m) (hN:m.length<=1073741824) :
 Calls prog 162 #[.func (.func 194) #[] #[.pointer (some ⟨Bm,0,none⟩)],.func (.func 164) #[] #[]] w fun e w'=>∃ (v:Value) (ts:List Dot),e=.returned v/\ts.Perm (m.map (·.1)) /\
  (ts.Pairwise fun x y=>df x y=true)/\w'.ownsRow w.heap.size 55 3 v ts.length (aN ts)/\(v=.slice none 0 0↔ts=[])/\Below w.heap.size w w':=by
 have hnd:(m.map (·.1)).Nodup:=by
  have:=htab.apart;exact List.pairwise_map.2 this
 have HAP:=aa (callsIn_wide.1 (P9 4 (by omega) Bm b m w hBm hm htab hN));have HC:Hid (Calls prog 192 #[.func (.func 194) #[] #[.pointer (some ⟨Bm,0,none⟩)]] w fun e w'=>∃ (v:Value) (ks:List Dot),e=.returned v/\ks.Perm (m.map (·.1)) /\
  w'.ownsRow w.heap.size 55 3 v ks.length (aN ks)/\(v=.slice none 0 0↔ks=[])/\Below w.heap.size w w'):=by
  clear hm htab;go_enter func192,ntmps192;go_wp2_with (go_at_call 234;(with_reducible refine HAP.out.mono ?_);rintro e w1 ⟨v,ks,rfl,h1,h2,h3,h4⟩)
  go_ret;exact ⟨v,ks,rfl,h1,h2,h3,h4⟩
 have HND:=aa hnd;have HN:=aa hN;clear hm htab hnd hN HAP;go_enter func162,ntmps162;go_upto_region 2 with (go_at_call 192;(with_reducible refine HC.out.mono ?_);rintro e w1 ⟨v,ks,rfl,hp,hown,hnil,hb⟩)
 have hlen:ks.length<=1073741824:=by rw [hp.length_eq,List.length_map];exact HN.out
 have HS:=aa (Qy w.heap.size v ks w1 hown hlen);have HP:=aa (And.intro hp hnil);have HO:=aa hown;clear hp hnil hown hlen;go_wp2_with (go_at_call 193;(with_reducible refine HS.out.mono ?_);rintro e w2 ⟨rfl,ts,hts,hsrt,hown2,hf2⟩)
 go_ret;have hpm:=hts.trans HP.out.1;refine ⟨v,ts,rfl,hpm,?_,by rw [hts.length_eq];exact hown2,?_,hb.trans (hf2.below hb.size (fun k hk=>(HO.out.lt k hk).1))⟩
 ·have h5:=pR (lt:=df) (fun x y h k=>pJ h k) (d:=ts.toArray) hsrt (by
   simp only [];exact (hpm.nodup_iff).2 HND.out)
  simpa using h5
 ·exact z140
theorem En (mb:Option Nat) (w:World):Calls prog 200 #[.map mb] w fun e w'=>e=.returned (.func (.func 240) #[] #[.pointer (some ⟨w.heap.size,0,none⟩)])/\w'=w.alloc (.cells #[.map mb] 169):=by
 go_enter func200,ntmps200;go_wp2;go_ret;exact ⟨rfl,rfl⟩
theorem Aa {β:Type} {vv:β->Value} (Bm b:Nat) (m:List (Actor×β)) (w:World) (hBm:Bm<w.heap.size) (hm:w.cell? ⟨Bm,0,none⟩=some (.map (some b))) (htab:Tab prog 53 fF ActW vv w b m) (hN:m.length<=1073741824) :
 Calls prog 199 #[.func (.func 240) #[] #[.pointer (some ⟨Bm,0,none⟩)],.func (.func 201) #[] #[]] w fun e w'=>∃ (v:Value) (ts:List Actor),e=.returned v/\ts.Perm (m.map (·.1)) /\
  (ts.Pairwise fun x y=>bJ x y=true)/\w'.ownsRow w.heap.size 53 2 v ts.length (iQ ts)/\(v=.slice none 0 0↔ts=[])/\Below w.heap.size w w':=by
 have hnd:(m.map (·.1)).Nodup:=by
  have:=htab.apart;exact List.pairwise_map.2 this
 have HAP:=aa (callsIn_wide.1 (JS 4 (by omega) Bm b m w hBm hm htab hN));have HC:Hid (Calls prog 238 #[.func (.func 240) #[] #[.pointer (some ⟨Bm,0,none⟩)]] w fun e w'=>∃ (v:Value) (ks:List Actor),e=.returned v/\ks.Perm (m.map (·.1)) /\
  w'.ownsRow w.heap.size 53 2 v ks.length (iQ ks)/\(v=.slice none 0 0↔ks=[])/\Below w.heap.size w w'):=by
  clear hm htab;go_enter func238,ntmps238;go_wp2_with (go_at_call 266;(with_reducible refine HAP.out.mono ?_);rintro e w1 ⟨v,ks,rfl,h1,h2,h3,h4⟩)
  go_ret;exact ⟨v,ks,rfl,h1,h2,h3,h4⟩
 have HND:=aa hnd;have HN:=aa hN;clear hm htab hnd hN HAP;go_enter func199,ntmps199;go_upto_region 2 with (go_at_call 238;(with_reducible refine HC.out.mono ?_);rintro e w1 ⟨v,ks,rfl,hp,hown,hnil,hb⟩)
 have hlen:ks.length<=1073741824:=by rw [hp.length_eq,List.length_map];exact HN.out
 have HS:=aa (KC w.heap.size v ks w1 hown hlen);have HP:=aa (And.intro hp hnil);have HO:=aa hown;clear hp hnil hown hlen;go_wp2_with (go_at_call 239;(with_reducible refine HS.out.mono ?_);rintro e w2 ⟨rfl,ts,hts,hsrt,hown2,hf2⟩)
 go_ret;have hpm:=hts.trans HP.out.1;refine ⟨v,ts,rfl,hpm,?_,by rw [hts.length_eq];exact hown2,?_,hb.trans (hf2.below hb.size (fun k hk=>(HO.out.lt k hk).1))⟩
 ·have h5:=pR (lt:=bJ) (fun x y h k=>mf h k) (d:=ts.toArray) hsrt (by
   simp only [];exact (hpm.nodup_iff).2 HND.out)
  simpa using h5
 ·exact z140
end Go.Proofs.YtffobmpeeopadaaGreat
/- dot.Sort. Conditions: at most 2^30 dots. -/
namespace Go.Proofs.YtffobmpeeopadaaGreat
open Go.RowKit Go.Shelf
theorem DotsIn.at {w:World} {a:Option Addr} {l:List Dot} (h:DotsIn w a l) {k:Nat} (hk:k<l.length) :
 ∃ A off,a=some ⟨A,off,none⟩/\w.cell? ⟨A,off+k * 3,none⟩=some (.int .i64 l[k].a.dev)/\w.cell? ⟨A,off+k * 3+1,none⟩=some (.int .i64 l[k].a.inc)/\w.cell? ⟨A,off+k * 3+2,none⟩=some (.int .i64 l[k].seq):=by
 rcases h with rfl | ⟨A,off,h1,h2⟩
 ·simp at hk
 ·exact ⟨A,off,h1,h2.dev k hk,h2.inc k hk,h2.seq k hk⟩
/-- a count goes up -/
theorem Tab.count {w:World} {b:Nat} {m:List (Dot×Int)} (h:Tab prog 55 bV DotW jW w b m) (hl:m.length+1<maxLen) {d:Dot} (hd:DotW d) :
 ∃ (n:Int) (st:Nat) (w1 w2:World) (m':List (Dot×Int)),(Instr.lookup 108 (.map (some b)) (bV d) false).run prog w=.ok (.int .i64 n) w /\
   (Instr.lookup 108 (.map (some b)) (bV d) false).run prog w1=.ok (.int .i64 n) w1 /\
   (∃ v0,(Instr.mapEntry 108 (.map (some b)) (bV d)).run prog w=.ok (.tuple #[v0,.int .i64 (st:Int)]) w1)/\Fr (isR b) w w1 /\
   (Instr.entryStore 108 (.map (some b)) (.int .i64 (st:Int)) (.int .i64 (IntKind.i64.wrap (n+1)))).run prog w1=.ok () w2/\Fr (isR b) w w2 /\
   Tab prog 55 bV DotW jW w2 b m'/\(∀ x,x∈m'.map (·.1)↔x=d\/x∈m.map (·.1))/\m'.length<=m.length+1:=by
 have hz:∀ u:World,(zeroValue 3).run prog u=.ok (.int .i64 0) u:=fun u=>by kernel_rfl
 have hkey:=ji.lit hd;have hown:=h;obtain ⟨D,hD,hTD⟩:=hown;by_cases hm:∃ c,(d,c)∈m
 ·obtain ⟨c,hc⟩:=hm
  obtain ⟨r,hr⟩:=kH hc;have hlr:=hr.length_eq;have hlook:=h.look_hit ji underlying108 (hz w) hc false;obtain ⟨w2,hrun2,CY,hf2⟩:=(h.perm hr).store_old ji underlying108 (by simp at hlr;omega) (IntKind.i64.wrap (c+1));rcases BL ji.law hD underlying108 hz hkey with ⟨v0,st,he,hs⟩ | ⟨st,w1,he,hu,hno,hs⟩
  ·refine ⟨c,st,w,w2,_,hlook,hlook,⟨v0,he⟩,Fr.refl _ _,hs _ _ hrun2,hf2,CY,fun x=>?_,by simp at hlr ⊢;omega⟩
   rw [(hr.map (·.1)).mem_iff];simp
  ·exfalso
   have hst:(Instr.lookup 108 (.map (some b)) (bV d) true).run prog w=.ok (.tuple #[.int .i64 c,.bool true]) w:=h.look_hit ji underlying108 (hz w) hc true;rw [hno] at hst;simp at hst
 ·have hn:∀ p∈m,p.1≠d:=fun p hp e=>hm ⟨p.2,by rw [<- e];exact hp⟩
  have hlook:=h.look_miss ji underlying108 (hz w) hd hn false;obtain ⟨w2,hrun2,CY,hf2⟩:=h.store_new ji underlying108 (by omega) hd hn (IntKind.i64.wrap (0+1));rcases BL ji.law hD underlying108 hz hkey with ⟨v0,st,he,hs⟩ | ⟨st,w1,he,hu,hno,hs⟩
  ·refine ⟨0,st,w,w2,_,hlook,hlook,⟨v0,he⟩,Fr.refl _ _,hs _ _ hrun2,hf2,CY,fun x=>?_,by simp⟩
   simp
  ·obtain ⟨w3,hrun3,NG,hf3⟩:=h.store_new ji underlying108 (by omega) hd hn 0
   obtain rfl:w1=w3:=by
        have:=hu.symm.trans hrun3
        cases this;rfl
   exact ⟨0,st,w1,w2,_,hlook,NG.look_hit ji underlying108 (hz w1) (p:=(d,0)) List.mem_cons_self false,⟨_,he⟩,hf3,hs _ _ hrun2,hf2,CY,fun x=>by simp,by simp⟩
theorem z49 {p : Prop} (h : p := by (rintro w ⟨s0, s1, s2, s3⟩; go_simp; try with_reducible rfl)) : p := h
theorem y54 {p q : Prop} (k : q) (h : PLift q -> p := by
 intro kk
 have x0 : W.drew.cell? ⟨wr.heap.size, 0, none⟩ = some (.int .i64 d.a.dev) := by rw [hW.out]; go_simp
 have x1 : W.drew.cell? ⟨wr.heap.size, 1, none⟩ = some (.int .i64 d.a.inc) := by rw [hW.out]; go_simp
 have x2 : W.drew.cell? ⟨wr.heap.size, 2, none⟩ = some (.int .i64 d.seq) := by rw [hW.out]; go_simp
 revert x0 x1 x2
 exact kk.down) : p := h ⟨k⟩
theorem zJ (a:Option Addr) (cap:Nat) (l:List Dot) (w:World) (hl:l.length<=1073741824) (hok:∀ d∈l,DotW d) (hin:DotsIn w a l) :
 Calls prog 123 #[.slice a l.length cap] w fun e w'=>∃ v,e=.returned v/\w'.ownsRow w.heap.size 55 3 v (sortD l).length (aN (sortD l))/\(v=.slice none 0 0↔sortD l=[])/\Below w.heap.size w w':=by
 have hmm:=@run_makeMap prog;have HO:=aa hok;go_enter func123,ntmps123;go_wp2;go_loopw [9] (fun i wr=>∃ (k:Nat) (m:List (Dot×Int)),i=.int .i64 k/\k<=l.length/\Tab prog 55 bV DotW jW wr w.heap.size m/\(∀ x,x∈m.map (·.1)↔x∈l.take k)/\m.length<=k/\Below w.heap.size w wr) (fun i _=>l.length - (intOf i).toNat)
 case atStart=>exact ⟨0,[],rfl,Nat.zero_le _,Tab.made w,by simp,al _,by go_grown⟩
 case round =>
  obtain ⟨k,m,rfl,hk,htab,hmem,hml,hbw⟩:=hrel;have HM:=aa hmem;clear hmem;by_cases hlt:k<l.length
  ·obtain ⟨A,off,rfl,e0,e1,e2⟩:=(hin.kept hbw).at hlt
   have hdw:=hok _ (List.getElem_mem hlt);have HT:Hid (∀ x,x∈l.take (k+1)↔x=l[k]\/x∈l.take k):=fun x=>by
        rw [List.take_add_one,List.getElem?_eq_getElem hlt];show x∈l.take k++[l[k]]↔_;rw [List.mem_append,List.mem_singleton];exact Or.comm
   have hzw:=hbw.size;generalize l[k]=d at e0 e1 e2 hdw HT;go_upto_region 5 with fail
   refine aU (fun W hW=>?_);have hb1:Below wr.heap.size wr W:=by rw [hW.out];go_grown
   refine y54 ?_
   intro x0 x1 x2
   clear hW e0 e1 e2
   have hbd:Below w.heap.size w W.drew:=hbw.trans (hb1.drew.mono hzw);have htw:Tab prog 55 bV DotW jW W.drew w.heap.size m:=(htab.kept hb1.drew);have hne:wr.heap.size≠w.heap.size:=by have:=htab.lt;omega
   obtain ⟨n,st,w1,w2,m',hl0,hl1,⟨v0,he⟩,hf1,hs,hf2,CY,hm2,Xb⟩:=htw.count (by unfold maxLen;omega) hdw;have HR:=aa (And.intro CY (And.intro hm2 Xb));have y0:w1.cell? ⟨wr.heap.size,0,none⟩=some (.int .i64 d.a.dev):=hf1.kept x0 hne;have y1:w1.cell? ⟨wr.heap.size,1,none⟩=some (.int .i64 d.a.inc):=hf1.kept x1 hne;have y2:w1.cell? ⟨wr.heap.size,2,none⟩=some (.int .i64 d.seq):=hf1.kept x2 hne;have HF:=aa (And.intro hf1 hf2);have hS:=And.intro x0 (And.intro x1 (And.intro x2 hl0));have hS1:=And.intro y0 (And.intro y1 (And.intro y2 hl1));clear CY hm2 Xb htw htab hf1 hf2 x0 x1 x2 y0 y1 y2 hl0 hl1 hb1;refine wp_region_noPanic ?_;refine bG (fun W'=>W'.cell? ⟨wr.heap.size,0,none⟩=some (.int .i64 d.a.dev)/\W'.cell? ⟨wr.heap.size,1,none⟩=some (.int .i64 d.a.inc)/\W'.cell? ⟨wr.heap.size,2,none⟩=some (.int .i64 d.seq)/\(Instr.lookup 108 (.map (some w.heap.size)) (bV d) false).run prog W'=.ok (.int .i64 n) W') [6] (by kernel_rfl) ?_;refine tL (v:=?_) 0 13 rfl (Or.inl ⟨by rfl,?_⟩) ?_
   case refine_2 => exact z49
   try simp only [pS]
   refine tL (v:=?_) 1 14 rfl (Or.inl ⟨by rfl,?_⟩) ?_
   case refine_2 => exact z49
   try simp only [pS]
   refine tL (v:=?_) 2 15 rfl (Or.inl ⟨by rfl,?_⟩) ?_
   case refine_2 => exact z49
   try simp only [pS]
   refine tL (v:=?_) 3 16 rfl (Or.inl ⟨by rfl,?_⟩) ?_
   case refine_2 => exact z49
   try simp only [pS]
   refine bD (i:=4) (o:=⟨some 17,_,_,_,_,_⟩) (by kernel_rfl) rfl ?_;intro K hK;go_simp;refine hK.out _ _ (Or.inr (hS1)) ?_;clear hK K;try simp only [pS]
   refine bD (i:=5) (o:=⟨some 18,_,_,_,_,_⟩) (by kernel_rfl) rfl ?_;intro K hK;go_simp;refine hK.out _ _ (Or.inr (hS1)) ?_;clear hK K
   refine y50 ?_
   refine y6 ?_
   have HK:=aa hlt;clear hS hS1 he hs;go_wp2;go_roundw
   case rel=>exact ⟨k+1,m',by go_num,HK.out,HR.out.1,fun x=>by rw [HR.out.2.1,HT.out,HM.out],by have:=HR.out.2.2;omega,hbd.trans (HF.out.2.below hbd.size (fun j hj=>by subst hj;exact al _))⟩
   case measure=>have:=HK.out;simp [intOf] <;> omega
  ·obtain rfl:k=l.length:=by omega
   have hM:=HM.out;rw [List.take_length] at hM;have HMM:=aa hM;have hz:=hbw.size;have HS:=aa (D8 wr.heap.size w.heap.size m (wr.alloc (.cells #[.map (some w.heap.size)] 108)) (by simp) (Boxed.new wr _ _).cell (htab.kept ((Below.refl _ _).alloc (al _) _)) (by omega));have HKS:=aa (IZ (some w.heap.size) wr);clear htab hM;go_wp2_with (first
        | (go_at_call 163;(with_reducible refine HKS.out.mono ?_);rintro e w1 ⟨rfl,rfl⟩)
        | (go_at_call 162;(with_reducible refine HS.out.mono ?_);rintro e w2 ⟨v,ts,rfl,hp,hsr,hown,hnil,hb2⟩))
   go_ret;obtain rfl:ts=sortD l:=AY hsr (jm l) fun x=>by rw [hp.mem_iff,HMM.out,dm]
   exact ⟨v,rfl,dS hown (by simp;omega),hnil,hbw.trans (((Below.refl _ _).alloc (al _) _).mono hz |>.trans (hb2.mono (by simp;omega)))⟩
end Go.Proofs.YtffobmpeeopadaaGreat
