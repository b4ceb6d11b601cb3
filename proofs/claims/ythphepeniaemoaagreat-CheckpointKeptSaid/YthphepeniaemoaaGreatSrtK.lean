/- The orders of dots and actors as functions for a sort: what they leave behind. Conditions: none. -/
import Derived.Test.YthphepeniaemoaaGreatCel
import Derived.Sort.Grow
import Derived.Deep.Draws
import Derived.Test.YthphepeniaemoaaGreatVec
import Derived.Sort.Statements
import Derived.Shelf.SlSortCmp.Insertion
import Derived.Test.YthphepeniaemoaaGreatMark
import Derived.Test.YthphepeniaemoaaGreatSrt
import Derived.Shelf.SlSortCmp.NoneTotal
import Derived.Test.YthphepeniaemoaaGreatEq
import Derived.Test.YthphepeniaemoaaGreatLast
import Derived.Test.YthphepeniaemoaaGreatClone
set_option linter.unusedSimpArgs false
set_option linter.unusedVariables false
set_option linter.unnecessarySimpa false
set_option maxHeartbeats 16000000
set_option maxRecDepth 100000
open Go.Proofs.Tryz
namespace Go.Proofs.YthphepeniaemoaaGreat
open Go.RowKit
/-- nothing that was there has turned; draws alone -/
structure Up (w w':World):Prop where
 below:Below w.heap.size w w'
 drawn:w.drawn<=w'.drawn
theorem Up.grown {w w':World} (h:Up w w'):∃ q os,w'=Go.Sort.grow (w.drewN q) os:=by
 obtain ⟨⟨h1,h2,h3,h4,h5⟩,h6⟩:=h;refine ⟨w'.drawn - w.drawn,w'.heap.extract w.heap.size w'.heap.size,?_⟩;obtain ⟨hp,tp,dr,os,out⟩:=w';obtain ⟨hp0,tp0,dr0,os0,Yf⟩:=w;simp only [Go.Sort.grow,World.drewN] at *;subst h1 h2 h3;simp only [World.mk.injEq,true_and,and_true];refine ⟨?_,by omega⟩;apply Array.ext_getElem?;intro k;rw [Array.getElem?_append];split
 ·rename_i hk;exact h5 k hk
 ·rename_i hk
  rw [Array.getElem?_extract];split
  ·congr 1;omega
  ·rename_i hlt
   exact Array.getElem?_eq_none (by omega)
theorem Up.refl (w:World):Up w w:=⟨bb _ _,aq _⟩
theorem Up.trans {a b c:World} (h:Up a b) (k:Up b c):Up a c:=⟨below2 h.below k.below,Nat.le_trans h.drawn k.drawn⟩
theorem zu (a b:Actor) (w:World) :
 Calls prog 217 #[.agg #[.int .i64 a.dev,.int .i64 a.inc],.agg #[.int .i64 b.dev,.int .i64 b.inc]] w fun e w'=>e=.returned (.int .i64 (eu a b))/\Up w w':=by
 go_enter func217,ntmps217;go_wp2;go_region_held3 (fun w'=>w'.cell? ⟨w.heap.size,0,none⟩=some (.int .i64 a.dev)/\w'.cell? ⟨w.heap.size,1,none⟩=some (.int .i64 a.inc)/\w'.cell? ⟨w.heap.size+1,0,none⟩=some (.int .i64 b.dev)/\w'.cell? ⟨w.heap.size+1,1,none⟩=some (.int .i64 b.inc)) (go_keep)
  (first
   | (go_at_call 233;refine (kL _ _ _).mono ?_;rintro e w1 ⟨rfl,rfl⟩)
   | (go_at_call 230;go_call xU (mf a.dev b.dev) (mf a.inc b.inc) as e w1 ⟨rfl,rfl⟩))
 go_wp2;go_ret;exact ⟨rfl,by go_grown,Nat.le_succ _⟩
theorem Qk (a b:Dot) (w:World) :
 Calls prog 192 #[.agg #[.int .i64 a.a.dev,.int .i64 a.a.inc,.int .i64 a.seq],.agg #[.int .i64 b.a.dev,.int .i64 b.a.inc,.int .i64 b.seq]] w fun e w'=>e=.returned (.int .i64 (nZ a b))/\Up w w':=by
 go_enter func192,ntmps192;go_wp2;go_region_held3 (fun w'=>w'.cell? ⟨w.heap.size,0,none⟩=some (.int .i64 a.a.dev)/\w'.cell? ⟨w.heap.size,1,none⟩=some (.int .i64 a.a.inc)/\w'.cell? ⟨w.heap.size,2,none⟩=some (.int .i64 a.seq)/\w'.cell? ⟨w.heap.size+1,0,none⟩=some (.int .i64 b.a.dev)/\w'.cell? ⟨w.heap.size+1,1,none⟩=some (.int .i64 b.a.inc)/\w'.cell? ⟨w.heap.size+1,2,none⟩=some (.int .i64 b.seq)) (first | (refine ⟨?_,?_,?_,?_,?_,?_⟩ <;> ((with_reducible refine kept hb ?_);simp [*];done)) | go_keep)
  (first
   | (go_at_call 233;refine (kL _ _ _).mono ?_;rintro e w1 ⟨rfl,rfl⟩)
   | (go_at_call 217;refine (zu a.a b.a _).mono ?_;rintro e w1 ⟨rfl,hb,hd⟩)
   | (go_at_call 230;go_call xU (eu a.a b.a) (mf a.seq b.seq) as e w2 ⟨rfl,rfl⟩))
 go_wp2;go_ret;have h0:Below w.heap.size w ((w.alloc (Obj.cells #[.int .i64 a.a.dev,.int .i64 a.a.inc,.int .i64 a.seq] 76)).alloc (Obj.cells #[.int .i64 b.a.dev,.int .i64 b.a.inc,.int .i64 b.seq] 76)).drew:=by go_grown
 refine ⟨rfl,(h0.trans (hb.mono h0.size)).alloc (by have:=(below2 h0 hb).size;omega) _,?_⟩;have hd':w.drawn+1<=w1.drawn:=hd;show w.drawn<=w1.drawn;omega
theorem JV (a b:Dot) (w:World):Calls prog 191 #[bT a,bT b] w fun e w'=>e=.returned (.int .i64 (nZ a b))/\Up w w':=by
 have HO:=aa (fun X=>Qk a b X);go_enter func191,ntmps191;go_wp2_with (go_at_call 192;(with_reducible refine (HO.out _).mono ?_);rintro e w1 ⟨rfl,hb⟩)
 go_ret;exact ⟨rfl,below2 (by go_grown) hb.below,hb.drawn⟩
theorem Fz (a b:Actor) (w:World):Calls prog 221 #[fA a,fA b] w fun e w'=>e=.returned (.int .i64 (eu a b))/\Up w w':=by
 have HO:=aa (fun X=>zu a b X);go_enter func221,ntmps221;go_wp2_with (go_at_call 217;(with_reducible refine (HO.out _).mono ?_);rintro e w1 ⟨rfl,hb⟩)
 go_ret;exact ⟨rfl,below2 (by go_grown) hb.below,hb.drawn⟩
end Go.Proofs.YthphepeniaemoaaGreat
/- Sorted lists, plainly: dots each once; what a sort leaves. Conditions: none. -/
namespace Go.Proofs.YthphepeniaemoaaGreat
open Go.RowKit
/-- strictly rising lists with the same members are one -/
theorem zU {α:Type} {lt:α->α->Bool} (irr:∀ x,lt x x=false) (tr:∀ x y z,lt x y=true->lt y z=true->lt x z=true) :
 ∀ {l m:List α},l.Pairwise (fun x y=>lt x y=true)->m.Pairwise (fun x y=>lt x y=true)->(∀ x,x∈l↔x∈m)->l=m
 | [],[],_,_,_=>rfl
 | [],b :: s,_,_,h=>by have:=(h b).2 (by simp);simp at this
 | a :: r,[],_,_,h=>by have:=(h a).1 (by simp);simp at this
 | a :: r,b :: s,h1,h2,h=>by
   obtain ⟨a1,a2⟩:=List.pairwise_cons.1 h1;obtain ⟨b1,b2⟩:=List.pairwise_cons.1 h2;have hab:a=b:=by
     rcases List.mem_cons.1 ((h a).1 (by simp)) with e | ha
     ·exact e
     ·rcases List.mem_cons.1 ((h b).2 (by simp)) with e | hb
      ·exact e.symm
      ·have:=tr _ _ _ (a1 b hb) (b1 a ha)
       rw [irr] at this
       cases this
   subst hab;rw [zU irr tr a2 b2 (fun p=>⟨fun hp=>by
     rcases List.mem_cons.1 ((h p).1 (by simp [hp])) with e | hp'
     ·have:=a1 p hp
      rw [e,irr] at this
      cases this
     ·exact hp',fun hp=>by
     rcases List.mem_cons.1 ((h p).2 (by simp [hp])) with e | hp'
     ·have:=b1 p hp
      rw [e,irr] at this
      cases this
     ·exact hp'⟩)]
theorem eP (d:Dot):bV d d=false:=by unfold bV bI;simp
theorem iU {a b c:Dot} (h:bV a b=true) (k:bV b c=true):bV a c=true:=by
 unfold bV bI at *;simp only [Bool.or_eq_true,Bool.and_eq_true,decide_eq_true_eq] at *;omega
theorem oN {a b:Dot} (h:a≠b) (k:bV a b=false):bV b a=true:=by
 unfold bV bI at *;simp only [Bool.or_eq_true,Bool.or_eq_false_iff,Bool.and_eq_true,Bool.and_eq_false_iff,decide_eq_true_eq,decide_eq_false_iff_not] at *;have:¬ (a.a.dev=b.a.dev/\a.a.inc=b.a.inc/\a.seq=b.seq):=fun e=>h (by obtain ⟨⟨a1,a2⟩,a3⟩:=a;obtain ⟨⟨b1,b2⟩,b3⟩:=b;simp_all);omega
def SrtD (l:List Dot):Prop:=l.Pairwise fun x y=>bV x y=true
/-- one dot more, in its place, once -/
def jJ (d:Dot):List Dot->List Dot
 | []=>[d]
 | x :: l=>if bV x d=true then x :: jJ d l else if x=d then x :: l else d :: x :: l
def sortD (l:List Dot):List Dot:=l.foldl (fun o d=>jJ d o) []
theorem z56 {p : Prop} (h : p := by
 rintro (h | h | h)
 ·exact ba (a8 h)
 ·exact a8 h
 ·exact ba (ba h)) : p := h
theorem Cb {d:Dot}:∀ {l:List Dot} {x:Dot},x∈jJ d l↔x=d\/x∈l
 | [],x=>by simp [jJ]
 | y :: l,x=>by
   unfold jJ;split
   ·rw [List.mem_cons,Cb,List.mem_cons]
    constructor
    ·exact z56
    ·exact z56
   ·split
    ·rename_i h
     subst h;simp
    ·simp
theorem IA {d:Dot}:∀ {l:List Dot},SrtD l->SrtD (jJ d l)
 | [],_=>by simp [jJ,SrtD]
 | x :: l,h=>by
   obtain ⟨h1,h2⟩:=List.pairwise_cons.1 h;unfold jJ;split
   ·rename_i hlt
    refine List.pairwise_cons.2 ⟨fun y hy=>?_,IA h2⟩;rcases Cb.1 hy with rfl | hy
    ·exact hlt
    ·exact h1 y hy
   ·rename_i hlt
    split
    ·exact h
    ·rename_i hne
     have hdx:=oN hne (Bool.eq_false_iff.2 hlt);refine List.pairwise_cons.2 ⟨fun y hy=>?_,h⟩;rcases List.mem_cons.1 hy with rfl | hy
     ·exact hdx
     ·exact iU hdx (h1 y hy)
theorem EH:∀ (l:List Dot) {o:List Dot},SrtD o->SrtD (l.foldl (fun o d=>jJ d o) o)
 | [],_,h=>h
 | _ :: l,_,h=>EH l (IA h)
theorem EI:∀ (l:List Dot) {o:List Dot} {x:Dot},x∈l.foldl (fun o d=>jJ d o) o↔x∈o\/x∈l
 | [],o,x=>by simp
 | d :: l,o,x=>by
   rw [List.foldl_cons,EI l,Cb,List.mem_cons];constructor
   ·rintro ((h | h) | h)
    ·exact ba (a8 h)
    ·exact a8 h
    ·exact ba (ba h)
   ·rintro (h | h | h)
    ·exact a8 (ba h)
    ·exact a8 (a8 h)
    ·exact ba h
theorem je (l:List Dot):SrtD (sortD l):=EH l List.Pairwise.nil
theorem cu {l:List Dot} {x:Dot}:x∈sortD l↔x∈l:=by unfold sortD;rw [EI];simp
theorem Am {l m:List Dot} (h:SrtD l) (k:SrtD m) (e:∀ x,x∈l↔x∈m):l=m:=zU eP (fun _ _ _=>iU) h k e
theorem SrtD.nodup {l:List Dot} (h:SrtD l):l.Nodup:=h.imp fun {a b} hab e=>by rw [e,eP] at hab;cases hab
theorem JW {l:List Dot} (h:SrtD l):sortD l=l:=Am (je l) h fun _=>cu
theorem yZ (d:Dot):∀ l:List Dot,(jJ d l).length<=l.length+1
 | []=>by simp [jJ]
 | x :: l=>by
   have:=yZ d l;unfold jJ;split
   ·simp only [List.length_cons];omega
   ·split <;> simp
theorem wU:∀ (l o:List Dot),(l.foldl (fun o d=>jJ d o) o).length<=o.length+l.length
 | [],o=>by simp
 | d :: l,o=>by
   have h1:=wU l (jJ d o);have h2:=yZ d o;simp only [List.foldl_cons,List.length_cons];omega
theorem gG (l:List Dot):(sortD l).length<=l.length:=by have:=wU l [];simpa [sortD] using this
theorem Dj (a b:Dot):decide (nZ a b<0)=bV a b:=EX a b
theorem xw (a b:Actor):decide (eu a b<0)=bI a b:=by
 unfold eu mf orI bI;rw [Bool.eq_iff_iff];simp only [Bool.or_eq_true,Bool.and_eq_true,decide_eq_true_eq];repeat' split
 all_goals omega
/-- what a sort of unlike elements leaves is strictly rising -/
theorem oQ {α:Type} [Inhabited α] {lt:α->α->Bool} (tot:∀ x y,x≠y->lt x y=false->lt y x=true) {d:Array α} (h:Go.Sort.SortedIn lt 0 d.size d) (hn:d.toList.Nodup):d.toList.Pairwise fun x y=>lt x y=true:=by
 rw [List.pairwise_iff_getElem];intro i j hi hj hij;have hi':i<d.size:=by simpa using hi
 have hj':j<d.size:=by simpa using hj
 have h1:=h i j (Nat.zero_le _) hij hj';rw [getElem!_pos d j hj',getElem!_pos d i hi'] at h1;have hne:d.toList[i]≠d.toList[j]:=List.pairwise_iff_getElem.1 hn i j hi hj hij;simp only [Array.getElem_toList] at hne ⊢;exact tot _ _ hne.symm h1
end Go.Proofs.YthphepeniaemoaaGreat
/- slices.SortFunc at a slice of one's own: dots, actors. Conditions: fewer than 2^30. -/
namespace Go.Proofs.YthphepeniaemoaaGreat
open Go.RowKit Go.Shelf
section
variable {α:Type} [Inhabited α] {enc:α->List Value} {k:Nat}
theorem flat_get (hk:∀ x,(enc x).length=k) (k0:0<k):∀ (l:List α) (t:Nat),t<l.length * k->(l.flatMap enc)[t]?=some ((enc l[t / k]!)[t % k]!)
 | [],t,h=>by simp at h
 | x :: l,t,h=>by
   rw [List.flatMap_cons];by_cases ht:t<k
   ·rw [List.getElem?_append_left (by rw [hk];exact ht),Nat.div_eq_of_lt ht,Nat.mod_eq_of_lt ht]
    have hlt:t<(enc x).length:=by rw [hk];exact ht
    simp [hlt]
   ·have ht':k<=t:=by omega
    rw [List.getElem?_append_right (by rw [hk];exact ht'),hk];have h2:t - k<l.length * k:=by
        simp only [List.length_cons,Nat.add_mul,Nat.one_mul] at h;omega
    rw [flat_get hk k0 l (t - k) h2];obtain ⟨u,rfl⟩:∃ u,t=u+k:=⟨t - k,by omega⟩;rw [Nat.add_sub_cancel,Nat.add_div_right u k0,Nat.add_mod_right];simp
theorem EL (hk:∀ x,(enc x).length=k) (k0:0<k) (l:List α) (t:Nat) (h:t<l.length * k):(l.flatMap enc)[t]?=some (Go.Sort.flatK enc k l.toArray)[t]!:=by
 rw [flat_get hk k0 l t h,Go.Sort.get_flatK _ _ _ _ (by simpa using h)];simp
omit [Inhabited α] in
theorem rY (hk:∀ x,(enc x).length=k):∀ l:List α,(l.flatMap enc).length=l.length * k
 | []=>by simp
 | x :: l=>by rw [List.flatMap_cons,ar,rY hk l,hk,List.length_cons,Nat.add_mul,Nat.one_mul,Nat.add_comm]
theorem uM (hk:∀ x,(enc x).length=k) (k0:0<k) {w:World} {g:Nat} {cur:Array Value} {e:TypeId} {l:List α} (hb:w.heap[g]?=some (.cells cur e (0,0))) (ht:cur.toList.take (l.length * k)=l.flatMap enc):Go.Sort.HoldsK enc k w g 0 l.toArray:=by
 intro j hj;have hj':j<l.length * k:=by simpa using hj
 refine ⟨?_,by simp [World.frozen?,hb]⟩;have h1:(cur.toList.take (l.length * k))[j]?=(l.flatMap enc)[j]?:=by rw [ht]
 rw [List.getElem?_take_of_lt hj',EL hk k0 l j hj'] at h1;simp only [World.cell?,hb,av];simp only [Option.isSome_none,Bool.false_eq_true,if_false];rw [<- Array.getElem?_toList,h1];rfl
theorem KT {w:World} {g n:Nat} {os:Array Obj} {cur:Array Value} {e:TypeId} {fr:Nat×Nat} (d:Array α) (hb:w.heap[g]?=some (.cells cur e fr)) :
 (sortWorldK enc k w g 0 n d os).heap[g]?=some (.cells (Go.Sort.putCells id 0 (Go.Sort.flatK enc k d) cur) e fr):=by
 have hg:g<w.heap.size:=(Array.getElem?_eq_some_iff.1 hb).1;unfold sortWorldK Go.Sort.putRowK;rw [Go.Sort.heap_grow_old _ _ (by simpa [Go.Sort.putRow,Go.Sort.mapBlock,Go.Sort.ahead] using hg)];simp [Go.Sort.putRow,Go.Sort.mapBlock,Go.Sort.ahead,Array.getElem?_modify,hb,Go.Sort.onCells]
theorem CG {w:World} {g n:Nat} {os:Array Obj} (d:Array α):Fr (isR g) w (sortWorldK enc k w g 0 n d os):=by
 unfold sortWorldK Go.Sort.putRowK;refine ⟨rfl,rfl,rfl,by simp [Go.Sort.putRow,Go.Sort.mapBlock,Go.Sort.ahead],fun j hj hne=>?_⟩;rw [Go.Sort.heap_grow_old _ _ (by simpa [Go.Sort.putRow,Go.Sort.mapBlock,Go.Sort.ahead] using hj)];have:g≠j:=fun e=>hne e.symm;simp [Go.Sort.putRow,Go.Sort.mapBlock,Go.Sort.ahead,Array.getElem?_modify,this]
theorem NJ (hk:∀ x,(enc x).length=k) (k0:0<k) (cur:Array Value) (l:List α) (h:l.length * k<=cur.size):(Go.Sort.putCells id 0 (Go.Sort.flatK enc k l.toArray) cur).toList.take (l.length * k)=l.flatMap enc:=by
 apply List.ext_getElem?;intro j;by_cases hj:j<l.length * k
 ·have hjc:j<cur.size:=by omega
  have hjf:j<(Go.Sort.flatK enc k l.toArray).size:=by simpa using hj
  rw [List.getElem?_take_of_lt hj,Array.getElem?_toList,EL hk k0 l j hj];simp only [Go.Sort.putCells,Array.getElem?_mapIdx,Array.getElem?_eq_getElem hjc,Option.map_some,av,Nat.zero_le,true_and,if_pos hjf,Nat.sub_zero,id]
 ·rw [List.getElem?_take_eq_none (by omega),List.getElem?_eq_none (by rw [rY hk];omega)]
theorem oV (hk:∀ x,(enc x).length=k) (k0:0<k) {w:World} {base g cap n:Nat} {e:TypeId} {os:Array Obj} {cur:Array Value} {ss ts:List α} (hl:ts.length=ss.length) (hbase:base<=g) (hb:w.heap[g]?=some (.cells cur e (0,0)))
 (h1:ss.length<=cap) (h2:cap<=maxLen) (h3:cur.size=cap * k) :
 (sortWorldK enc k w g 0 n ts.toArray os).ownsRow base e k (.slice (some ⟨g,0,none⟩) ss.length cap) ss.length (ts.flatMap enc) :=
 ⟨by rw [rY hk,hl],.inr ⟨g,cap,_,rfl,hbase,KT _ hb,h1,h2,by simp [Go.Sort.putCells,h3],by
  rw [<- hl];exact NJ hk k0 cur ts (by rw [hl,h3];exact Nat.mul_le_mul_right k h1)⟩⟩
end
instance:Inhabited Actor:=⟨⟨0,0⟩⟩
instance:Inhabited Dot:=⟨⟨⟨0,0⟩,0⟩⟩
def CX (d:Dot):List Value:=[.int .i64 d.a.dev,.int .i64 d.a.inc,.int .i64 d.seq]
def sG (a:Actor):List Value:=[.int .i64 a.dev,.int .i64 a.inc]
theorem Uw:Go.Sort.SWO (ltOf nZ):=by
 have e:∀ x y,ltOf nZ x y=bV x y:=fun x y=>Dj x y;refine ⟨fun x=>by rw [e];exact eP x,fun x y z h k=>?_,fun x y z h k=>?_⟩
 ·rw [e] at h k ⊢;exact iU h k
 ·rw [e] at h k ⊢
  cases hh:bV x z with
  | false=>rfl
  | true =>
    by_cases hxy:x=y
    ·subst hxy;rw [k] at hh;cases hh
    ·have h1:=oN hxy h
     have h2:=iU h1 hh;rw [k] at h2;cases h2
theorem P5:Go.Sort.SWO (ltOf eu):=by
 have e:∀ x y,ltOf eu x y=bI x y:=fun x y=>xw x y;refine ⟨fun x=>by rw [e];exact dw x,fun x y z h k=>?_,fun x y z h k=>?_⟩
 ·rw [e] at h k ⊢;exact jk h k
 ·rw [e] at h k ⊢
  cases hh:bI x z with
  | false=>rfl
  | true =>
    by_cases hxy:x=y
    ·subst hxy;rw [k] at hh;cases hh
    ·have h1:=lL hxy h
     have h2:=jk h1 hh;rw [k] at h2;cases h2
theorem Lu (blk off size:Nat) (w:World):CmpLays prog 191 #[] CX 3 nZ blk off size w :=
 fun _ _ _ _ x y=>(JV x y _).mono fun _ _ ⟨he,hu⟩=>⟨he,hu.grown⟩
theorem z106 {p : Prop} (h : p := by
 rintro e w' ⟨rfl, rfl⟩
 exact ⟨rfl, [], List.Perm.refl _, fun i j _ _ h => by simp at h, hown, Fr.refl _ _⟩) : p := h
theorem z90 {p : Prop} (h : p := by
 have := p3
 rwa [show d'.extract 0 ks.length = d' by rw [<- hsz]; simp, show ks.toArray.extract 0 ks.length = ks.toArray by simp] at this) : p := h
theorem y75 {p q : Prop} (k : q) (h : PLift q -> p := by
 intro kk
 have hd : d' = d'.toList.toArray := by simp
 have hsz : d'.size = ks.length := by simpa using p1
 have hperm : d'.toList.Perm ks := by
  exact z90
 revert hd hsz hperm
 exact kk.down) : p := h ⟨k⟩
theorem P7 (base:Nat) (v:Value) (ks:List Dot) (w:World) (hown:w.ownsRow base 76 3 v ks.length (aI ks)) (hl:ks.length<=1073741824) :
 Calls prog 235 #[v,.func (.func 191) #[] #[]] w fun e w'=>e=.returned (.tuple #[])/\∃ ts:List Dot,ts.Perm ks/\Go.Sort.SortedIn bV 0 ts.toArray.size ts.toArray/\w'.ownsRow base 76 3 v ks.length (aI ts)/\Fr (fun k=>v.ownBlock=some k) w w':=by
 rcases hown.2 with ⟨rfl,hz⟩ | ⟨g,cap,cur,rfl,hbase,hgb,r1,r2,r3,r4⟩
 ·obtain rfl:ks=[]:=List.eq_nil_of_length_eq_zero hz
  refine (AnyF.slices_SortFunc_none Tryz.sortDot none 0 _ w).mono ?_
  exact z106
 ·have hH:Go.Sort.HoldsK CX 3 w g 0 ks.toArray:=uM (k:=3) (fun _=>rfl) (by decide) hgb r4
  have hgl:g<w.heap.size:=(Array.getElem?_eq_some_iff.1 hgb).1;have hc:=AnyQ.slices_SortFunc Tryz.sortDot 3 Tryz.isAgg76 Tryz.sizeOf76 CX (fun _=>rfl) (fun x v hv=>by simp [CX] at hv;rcases hv with rfl | rfl | rfl <;> rfl) nZ Uw 191 #[] g 0 cap ks.toArray w (enters_of func191 (by kernel_rfl) rfl) (Lu g 0 _ w) hH hgl (by simp;omega);rw [List.size_toArray] at hc;refine hc.mono ?_;rintro e w' ⟨rfl,d',n,os,⟨p1,p2,p3⟩,hs,rfl⟩
  refine y75 ?_
  intro hd hsz hperm
  refine ⟨rfl,d'.toList,hperm,?_,?_,?_⟩
  ·have e:ltOf nZ=bV:=by funext x y;exact Dj x y
   rw [e] at hs;simpa [hsz] using hs
  ·have h9:=oV (enc:=CX) (k:=3) (ts:=d'.toList) (ss:=ks) (n:=n) (os:=os) (fun _=>rfl) (by decide) (by simpa using hsz) hbase hgb r1 r2 r3
   rw [<- hd] at h9;exact h9
  ·exact (CG d').mono fun k _ hk=>by subst hk;rfl
theorem Gs (blk off size:Nat) (w:World):CmpLays prog 221 #[] sG 2 eu blk off size w :=
 fun _ _ _ _ x y=>(Fz x y _).mono fun _ _ ⟨he,hu⟩=>⟨he,hu.grown⟩
theorem JU (base:Nat) (v:Value) (ks:List Actor) (w:World) (hown:w.ownsRow base 74 2 v ks.length (iJ ks)) (hl:ks.length<=1073741824) :
 Calls prog 257 #[v,.func (.func 221) #[] #[]] w fun e w'=>e=.returned (.tuple #[])/\∃ ts:List Actor,ts.Perm ks/\Go.Sort.SortedIn bI 0 ts.toArray.size ts.toArray/\w'.ownsRow base 74 2 v ks.length (iJ ts)/\Fr (fun k=>v.ownBlock=some k) w w':=by
 rcases hown.2 with ⟨rfl,hz⟩ | ⟨g,cap,cur,rfl,hbase,hgb,r1,r2,r3,r4⟩
 ·obtain rfl:ks=[]:=List.eq_nil_of_length_eq_zero hz
  refine (AnyF.slices_SortFunc_none Tryz.sortActor none 0 _ w).mono ?_
  exact z106
 ·have hH:Go.Sort.HoldsK sG 2 w g 0 ks.toArray:=uM (k:=2) (fun _=>rfl) (by decide) hgb r4
  have hgl:g<w.heap.size:=(Array.getElem?_eq_some_iff.1 hgb).1;have hc:=AnyQ.slices_SortFunc Tryz.sortActor 2 Tryz.isAgg74 Tryz.sizeOf74 sG (fun _=>rfl) (fun x v hv=>by simp [sG] at hv;rcases hv with rfl | rfl <;> rfl) eu P5 221 #[] g 0 cap ks.toArray w (enters_of func221 (by kernel_rfl) rfl) (Gs g 0 _ w) hH hgl (by simp;omega);rw [List.size_toArray] at hc;refine hc.mono ?_;rintro e w' ⟨rfl,d',n,os,⟨p1,p2,p3⟩,hs,rfl⟩
  refine y75 ?_
  intro hd hsz hperm
  refine ⟨rfl,d'.toList,hperm,?_,?_,?_⟩
  ·have e:ltOf eu=bI:=by funext x y;exact xw x y
   rw [e] at hs;simpa [hsz] using hs
  ·have h9:=oV (enc:=sG) (k:=2) (ts:=d'.toList) (ss:=ks) (n:=n) (os:=os) (fun _=>rfl) (by decide) (by simpa using hsz) hbase hgb r1 r2 r3
   rw [<- hd] at h9;exact h9
  ·exact (CG d').mono fun k _ hk=>by subst hk;rfl
end Go.Proofs.YthphepeniaemoaaGreat
/- The sorted keys of a map; dot.Sort. Conditions: at most 2^30 of them. -/
namespace Go.Proofs.YthphepeniaemoaaGreat
open Go.RowKit Go.Shelf
theorem Ip (mb:Option Nat) (w:World):Calls prog 190 #[.map mb] w fun e w'=>e=.returned (.func (.func 236) #[] #[.pointer (some ⟨w.heap.size,0,none⟩)])/\w'=w.alloc (.cells #[.map mb] 121):=by
 go_enter func190,ntmps190;go_wp2;go_ret;exact ⟨rfl,rfl⟩
theorem z140 {p : Prop} (h : p := by
 rw [HP.out.2]
 constructor
 ·intro h; subst h; exact List.Perm.eq_nil hts
 ·intro h; subst h; exact (List.Perm.eq_nil hts.symm)) : p := h
theorem DD {β:Type} {vv:β->Value} (Bm b:Nat) (m:List (Dot×β)) (w:World) (hBm:Bm<w.heap.size) (hm:w.cell? ⟨Bm,0,none⟩=some (.map (some b))) (htab:Tab prog 76 bT DotW vv w b m) (hN:m.length<=1073741824) :
 Calls prog 189 #[.func (.func 236) #[] #[.pointer (some ⟨Bm,0,none⟩)],.func (.func 191) #[] #[]] w fun e w'=>∃ (v:Value) (ts:List Dot),e=.returned v/\ts.Perm (m.map (·.1)) /\
  (ts.Pairwise fun x y=>bV x y=true)/\w'.ownsRow w.heap.size 76 3 v ts.length (aI ts)/\(v=.slice none 0 0↔ts=[])/\Below w.heap.size w w':=by
 have hnd:(m.map (·.1)).Nodup:=by
  have:=htab.apart;exact List.pairwise_map.2 this
 have HAP:=aa (callsIn_wide.1 (Pz 4 (by omega) Bm b m w hBm hm htab hN));have HC:Hid (Calls prog 234 #[.func (.func 236) #[] #[.pointer (some ⟨Bm,0,none⟩)]] w fun e w'=>∃ (v:Value) (ks:List Dot),e=.returned v/\ks.Perm (m.map (·.1)) /\
  w'.ownsRow w.heap.size 76 3 v ks.length (aI ks)/\(v=.slice none 0 0↔ks=[])/\Below w.heap.size w w'):=by
  clear hm htab;go_enter func234,ntmps234;go_wp2_with (go_at_call 264;(with_reducible refine HAP.out.mono ?_);rintro e w1 ⟨v,ks,rfl,h1,h2,h3,h4⟩)
  go_ret;exact ⟨v,ks,rfl,h1,h2,h3,h4⟩
 have HND:=aa hnd;have HN:=aa hN;clear hm htab hnd hN HAP;go_enter func189,ntmps189;go_upto_region 2 with (go_at_call 234;(with_reducible refine HC.out.mono ?_);rintro e w1 ⟨v,ks,rfl,hp,hown,hnil,hb⟩)
 have hlen:ks.length<=1073741824:=by rw [hp.length_eq,List.length_map];exact HN.out
 have HS:=aa (P7 w.heap.size v ks w1 hown hlen);have HP:=aa (a7 hp hnil);have HO:=aa hown;clear hp hnil hown hlen;go_wp2_with (go_at_call 235;(with_reducible refine HS.out.mono ?_);rintro e w2 ⟨rfl,ts,hts,hsrt,hown2,hf2⟩)
 go_ret;have hpm:=hts.trans HP.out.1;refine ⟨v,ts,rfl,hpm,?_,by rw [hts.length_eq];exact hown2,?_,hb.trans (hf2.below hb.size (fun k hk=>(HO.out.lt k hk).1))⟩
 ·have h5:=oQ (lt:=bV) (fun x y h k=>oN h k) (d:=ts.toArray) hsrt (by
   simp only [];exact (hpm.nodup_iff).2 HND.out)
  simpa using h5
 ·exact z140
theorem DW (mb:Option Nat) (w:World):Calls prog 220 #[.map mb] w fun e w'=>e=.returned (.func (.func 258) #[] #[.pointer (some ⟨w.heap.size,0,none⟩)])/\w'=w.alloc (.cells #[.map mb] 179):=by
 go_enter func220,ntmps220;go_wp2;go_ret;exact ⟨rfl,rfl⟩
theorem zK {β:Type} {vv:β->Value} (Bm b:Nat) (m:List (Actor×β)) (w:World) (hBm:Bm<w.heap.size) (hm:w.cell? ⟨Bm,0,none⟩=some (.map (some b))) (htab:Tab prog 74 fA ActW vv w b m) (hN:m.length<=1073741824) :
 Calls prog 219 #[.func (.func 258) #[] #[.pointer (some ⟨Bm,0,none⟩)],.func (.func 221) #[] #[]] w fun e w'=>∃ (v:Value) (ts:List Actor),e=.returned v/\ts.Perm (m.map (·.1)) /\
  (ts.Pairwise fun x y=>bI x y=true)/\w'.ownsRow w.heap.size 74 2 v ts.length (iJ ts)/\(v=.slice none 0 0↔ts=[])/\Below w.heap.size w w':=by
 have hnd:(m.map (·.1)).Nodup:=by
  have:=htab.apart;exact List.pairwise_map.2 this
 have HAP:=aa (callsIn_wide.1 (Js 4 (by omega) Bm b m w hBm hm htab hN));have HC:Hid (Calls prog 256 #[.func (.func 258) #[] #[.pointer (some ⟨Bm,0,none⟩)]] w fun e w'=>∃ (v:Value) (ks:List Actor),e=.returned v/\ks.Perm (m.map (·.1)) /\
  w'.ownsRow w.heap.size 74 2 v ks.length (iJ ks)/\(v=.slice none 0 0↔ks=[])/\Below w.heap.size w w'):=by
  clear hm htab;go_enter func256,ntmps256;go_wp2_with (go_at_call 275;(with_reducible refine HAP.out.mono ?_);rintro e w1 ⟨v,ks,rfl,h1,h2,h3,h4⟩)
  go_ret;exact ⟨v,ks,rfl,h1,h2,h3,h4⟩
 have HND:=aa hnd;have HN:=aa hN;clear hm htab hnd hN HAP;go_enter func219,ntmps219;go_upto_region 2 with (go_at_call 256;(with_reducible refine HC.out.mono ?_);rintro e w1 ⟨v,ks,rfl,hp,hown,hnil,hb⟩)
 have hlen:ks.length<=1073741824:=by rw [hp.length_eq,List.length_map];exact HN.out
 have HS:=aa (JU w.heap.size v ks w1 hown hlen);have HP:=aa (a7 hp hnil);have HO:=aa hown;clear hp hnil hown hlen;go_wp2_with (go_at_call 257;(with_reducible refine HS.out.mono ?_);rintro e w2 ⟨rfl,ts,hts,hsrt,hown2,hf2⟩)
 go_ret;have hpm:=hts.trans HP.out.1;refine ⟨v,ts,rfl,hpm,?_,by rw [hts.length_eq];exact hown2,?_,hb.trans (hf2.below hb.size (fun k hk=>(HO.out.lt k hk).1))⟩
 ·have h5:=oQ (lt:=bI) (fun x y h k=>lL h k) (d:=ts.toArray) hsrt (by
   simp only [];exact (hpm.nodup_iff).2 HND.out)
  simpa using h5
 ·exact z140
end Go.Proofs.YthphepeniaemoaaGreat
/- dot.Sort. Conditions: at most 2^30 dots. -/
namespace Go.Proofs.YthphepeniaemoaaGreat
open Go.RowKit Go.Shelf
theorem DotsIn.at {w:World} {a:Option Addr} {l:List Dot} (h:DotsIn w a l) {k:Nat} (hk:k<l.length) :
 ∃ A off,a=some ⟨A,off,none⟩/\w.cell? ⟨A,off+k * 3,none⟩=some (.int .i64 l[k].a.dev)/\w.cell? ⟨A,off+k * 3+1,none⟩=some (.int .i64 l[k].a.inc)/\w.cell? ⟨A,off+k * 3+2,none⟩=some (.int .i64 l[k].seq):=by
 rcases h with rfl | ⟨A,off,h1,h2⟩
 ·simp at hk
 ·exact ⟨A,off,h1,h2.dev k hk,h2.inc k hk,h2.seq k hk⟩
/-- a count goes up -/
theorem Tab.count {w:World} {b:Nat} {m:List (Dot×Int)} (h:Tab prog 76 bT DotW jQ w b m) (hl:m.length+1<maxLen) {d:Dot} (hd:DotW d) :
 ∃ (n:Int) (st:Nat) (w1 w2:World) (m':List (Dot×Int)),(Instr.lookup 121 (.map (some b)) (bT d) false).run prog w=.ok (.int .i64 n) w /\
   (Instr.lookup 121 (.map (some b)) (bT d) false).run prog w1=.ok (.int .i64 n) w1 /\
   (∃ v0,(Instr.mapEntry 121 (.map (some b)) (bT d)).run prog w=.ok (.tuple #[v0,.int .i64 (st:Int)]) w1)/\Fr (isR b) w w1 /\
   (Instr.entryStore 121 (.map (some b)) (.int .i64 (st:Int)) (.int .i64 (IntKind.i64.wrap (n+1)))).run prog w1=.ok () w2/\Fr (isR b) w w2 /\
   Tab prog 76 bT DotW jQ w2 b m'/\(∀ x,x∈m'.map (·.1)↔x=d\/x∈m.map (·.1))/\m'.length<=m.length+1:=by
 have hz:∀ u:World,(zeroValue 3).run prog u=.ok (.int .i64 0) u:=fun u=>by kernel_rfl
 have hkey:=jb.lit hd;have hown:=h;obtain ⟨D,hD,hTD⟩:=hown;by_cases hm:∃ c,(d,c)∈m
 ·obtain ⟨c,hc⟩:=hm
  obtain ⟨r,hr⟩:=ku hc;have hlr:=hr.length_eq;have hlook:=h.look_hit jb underlying121 (hz w) hc false;obtain ⟨w2,hrun2,Cc,hf2⟩:=(h.perm hr).store_old jb underlying121 (by simp at hlr;omega) (IntKind.i64.wrap (c+1));rcases Bg jb.law hD underlying121 hz hkey with ⟨v0,st,he,hs⟩ | ⟨st,w1,he,hu,hno,hs⟩
  ·refine ⟨c,st,w,w2,_,hlook,hlook,⟨v0,he⟩,Fr.refl _ _,hs _ _ hrun2,hf2,Cc,fun x=>?_,by simp at hlr ⊢;omega⟩
   rw [(hr.map (·.1)).mem_iff];simp
  ·exfalso
   have hst:(Instr.lookup 121 (.map (some b)) (bT d) true).run prog w=.ok (.tuple #[.int .i64 c,.bool true]) w:=h.look_hit jb underlying121 (hz w) hc true;rw [hno] at hst;simp at hst
 ·have hn:∀ p∈m,p.1≠d:=fun p hp e=>hm ⟨p.2,by rw [<- e];exact hp⟩
  have hlook:=h.look_miss jb underlying121 (hz w) hd hn false;obtain ⟨w2,hrun2,Cc,hf2⟩:=h.store_new jb underlying121 (by omega) hd hn (IntKind.i64.wrap (0+1));rcases Bg jb.law hD underlying121 hz hkey with ⟨v0,st,he,hs⟩ | ⟨st,w1,he,hu,hno,hs⟩
  ·refine ⟨0,st,w,w2,_,hlook,hlook,⟨v0,he⟩,Fr.refl _ _,hs _ _ hrun2,hf2,Cc,fun x=>?_,by simp⟩
   simp
  ·obtain ⟨w3,hrun3,MZ,hf3⟩:=h.store_new jb underlying121 (by omega) hd hn 0
   obtain rfl:w1=w3:=by
        have:=hu.symm.trans hrun3
        cases this;rfl
   exact ⟨0,st,w1,w2,_,hlook,MZ.look_hit jb underlying121 (hz w1) (p:=(d,0)) List.mem_cons_self false,⟨_,he⟩,hf3,hs _ _ hrun2,hf2,Cc,fun x=>by simp,by simp⟩
theorem z47 {p : Prop} (h : p := by (rintro w ⟨s0, s1, s2, s3⟩; go_simp; try with_reducible rfl)) : p := h
theorem y51 {p q : Prop} (k : q) (h : PLift q -> p := by
 intro kk
 have x0 : W.drew.cell? ⟨wr.heap.size, 0, none⟩ = some (.int .i64 d.a.dev) := by rw [hW.out]; go_simp
 have x1 : W.drew.cell? ⟨wr.heap.size, 1, none⟩ = some (.int .i64 d.a.inc) := by rw [hW.out]; go_simp
 have x2 : W.drew.cell? ⟨wr.heap.size, 2, none⟩ = some (.int .i64 d.seq) := by rw [hW.out]; go_simp
 revert x0 x1 x2
 exact kk.down) : p := h ⟨k⟩
theorem zt (a:Option Addr) (cap:Nat) (l:List Dot) (w:World) (hl:l.length<=1073741824) (hok:∀ d∈l,DotW d) (hin:DotsIn w a l) :
 Calls prog 149 #[.slice a l.length cap] w fun e w'=>∃ v,e=.returned v/\w'.ownsRow w.heap.size 76 3 v (sortD l).length (aI (sortD l))/\(v=.slice none 0 0↔sortD l=[])/\Below w.heap.size w w':=by
 have hmm:=@run_makeMap prog;have HO:=aa hok;go_enter func149,ntmps149;go_wp2;go_loopw [9] (fun i wr=>∃ (k:Nat) (m:List (Dot×Int)),i=.int .i64 k/\k<=l.length/\Tab prog 76 bT DotW jQ wr w.heap.size m/\(∀ x,x∈m.map (·.1)↔x∈l.take k)/\m.length<=k/\Below w.heap.size w wr) (fun i _=>l.length - (intOf i).toNat)
 case atStart=>exact ⟨0,[],rfl,Nat.zero_le _,Tab.made w,by simp,aq _,by go_grown⟩
 case round =>
  obtain ⟨k,m,rfl,hk,htab,hmem,hml,hbw⟩:=hrel;have HM:=aa hmem;clear hmem;by_cases hlt:k<l.length
  ·obtain ⟨A,off,rfl,e0,e1,e2⟩:=(hin.kept hbw).at hlt
   have hdw:=hok _ (List.getElem_mem hlt);have HT:Hid (∀ x,x∈l.take (k+1)↔x=l[k]\/x∈l.take k):=fun x=>by
        rw [List.take_add_one,List.getElem?_eq_getElem hlt];show x∈l.take k++[l[k]]↔_;rw [List.mem_append,List.mem_singleton];exact Or.comm
   have hzw:=hbw.size;generalize l[k]=d at e0 e1 e2 hdw HT;go_upto_region 5 with fail
   refine aN (fun W hW=>?_);have hb1:Below wr.heap.size wr W:=by rw [hW.out];go_grown
   refine y51 ?_
   intro x0 x1 x2
   clear hW e0 e1 e2
   have hbd:Below w.heap.size w W.drew:=hbw.trans (hb1.drew.mono hzw);have htw:Tab prog 76 bT DotW jQ W.drew w.heap.size m:=(htab.kept hb1.drew);have hne:wr.heap.size≠w.heap.size:=by have:=htab.lt;omega
   obtain ⟨n,st,w1,w2,m',hl0,hl1,⟨v0,he⟩,hf1,hs,hf2,Cc,hm2,Wq⟩:=htw.count (by unfold maxLen;omega) hdw;have HR:=aa (a7 Cc (a7 hm2 Wq));have y0:w1.cell? ⟨wr.heap.size,0,none⟩=some (.int .i64 d.a.dev):=hf1.kept x0 hne;have y1:w1.cell? ⟨wr.heap.size,1,none⟩=some (.int .i64 d.a.inc):=hf1.kept x1 hne;have y2:w1.cell? ⟨wr.heap.size,2,none⟩=some (.int .i64 d.seq):=hf1.kept x2 hne;have HF:=aa (a7 hf1 hf2);have hS:=a7 x0 (a7 x1 (a7 x2 hl0));have hS1:=a7 y0 (a7 y1 (a7 y2 hl1));clear Cc hm2 Wq htw htab hf1 hf2 x0 x1 x2 y0 y1 y2 hl0 hl1 hb1;refine wp_region_noPanic ?_;refine bG (fun W'=>W'.cell? ⟨wr.heap.size,0,none⟩=some (.int .i64 d.a.dev)/\W'.cell? ⟨wr.heap.size,1,none⟩=some (.int .i64 d.a.inc)/\W'.cell? ⟨wr.heap.size,2,none⟩=some (.int .i64 d.seq)/\(Instr.lookup 121 (.map (some w.heap.size)) (bT d) false).run prog W'=.ok (.int .i64 n) W') [6] (by kernel_rfl) ?_;refine tL (v:=?_) 0 13 rfl (a8 ⟨by rfl,?_⟩) ?_
   case refine_2 => exact z47
   try simp only [pS]
   refine tL (v:=?_) 1 14 rfl (a8 ⟨by rfl,?_⟩) ?_
   case refine_2 => exact z47
   try simp only [pS]
   refine tL (v:=?_) 2 15 rfl (a8 ⟨by rfl,?_⟩) ?_
   case refine_2 => exact z47
   try simp only [pS]
   refine tL (v:=?_) 3 16 rfl (a8 ⟨by rfl,?_⟩) ?_
   case refine_2 => exact z47
   try simp only [pS]
   refine bD (i:=4) (o:=⟨some 17,_,_,_,_,_⟩) (by kernel_rfl) rfl ?_;intro K hK;go_simp;refine hK.out _ _ (ba (hS1)) ?_;clear hK K;try simp only [pS]
   refine bD (i:=5) (o:=⟨some 18,_,_,_,_,_⟩) (by kernel_rfl) rfl ?_;intro K hK;go_simp;refine hK.out _ _ (ba (hS1)) ?_;clear hK K
   refine y46 ?_
   refine y6 ?_
   have HK:=aa hlt;clear hS hS1 he hs;go_wp2;go_roundw
   case rel=>exact ⟨k+1,m',by go_num,HK.out,HR.out.1,fun x=>by rw [HR.out.2.1,HT.out,HM.out],by have:=HR.out.2.2;omega,hbd.trans (HF.out.2.below hbd.size (fun j hj=>by subst hj;exact aq _))⟩
   case measure=>have:=HK.out;simp [intOf] <;> omega
  ·obtain rfl:k=l.length:=by omega
   have hM:=HM.out;rw [List.take_length] at hM;have HMM:=aa hM;have hz:=hbw.size;have HS:=aa (DD wr.heap.size w.heap.size m (wr.alloc (.cells #[.map (some w.heap.size)] 121)) (by simp) (Boxed.new wr _ _).cell (htab.kept ((bb _ _).alloc (aq _) _)) (by omega));have HKS:=aa (Ip (some w.heap.size) wr);clear htab hM;go_wp2_with (first
        | (go_at_call 190;(with_reducible refine HKS.out.mono ?_);rintro e w1 ⟨rfl,rfl⟩)
        | (go_at_call 189;(with_reducible refine HS.out.mono ?_);rintro e w2 ⟨v,ts,rfl,hp,hsr,hown,hnil,hb2⟩))
   go_ret;obtain rfl:ts=sortD l:=Am hsr (je l) fun x=>by rw [hp.mem_iff,HMM.out,cu]
   exact ⟨v,rfl,fE hown (by simp;omega),hnil,hbw.trans (((bb _ _).alloc (aq _) _).mono hz |>.trans (hb2.mono (by simp;omega)))⟩
end Go.Proofs.YthphepeniaemoaaGreat
