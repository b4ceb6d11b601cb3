/- The orders of dots and actors as functions for a sort: what they leave behind. Conditions: none. -/
import Derived.Test.YthphepeniaemoaaGreatCel
import Derived.Sort.Grow
import Derived.Deep.Draws
import Derived.Test.YthphepeniaemoaaGreatVec
import Derived.Sort.Statements
import Derived.Shelf.SlSortCmp.Insertion
import Derived.Test.YthphepeniaemoaaGreatMark
import Derived.Test.YthphepeniaemoaaGreatSrt
import Derived.Shelf.SlSortCmp.NoneTotal
import Derived.Test.YthphepeniaemoaaGreatEq
import Derived.Test.YthphepeniaemoaaGreatLast
import Derived.Test.YthphepeniaemoaaGreatClone
set_option linter.unusedSimpArgs false
set_option linter.unusedVariables false
set_option linter.unnecessarySimpa false
set_option maxHeartbeats 16000000
set_option maxRecDepth 100000
open Go.Proofs.Tryz
namespace Go.Proofs.YthphepeniaemoaaGreat
open Go.RowKit
/-- nothing that was there has turned; draws alone -/
structure Up (w w':World):Prop where
 below:Below w.heap.size w w'
 drawn:w.drawn<=w'.drawn
theorem Up.grown {w w':World} (h:Up w w'):∃ q os,w'=Go.Sort.grow (w.drewN q) os:=by
 obtain ⟨⟨h1,h2,h3,h4,h5⟩,h6⟩:=h;refine ⟨w'.drawn - w.drawn,w'.heap.extract w.heap.size w'.heap.size,?_⟩;obtain ⟨hp,tp,dr,os,out⟩:=w';obtain ⟨hp0,tp0,dr0,os0,XE⟩:=w;simp only [Go.Sort.grow,World.drewN] at *;subst h1 h2 h3;simp only [World.mk.injEq,true_and,and_true];refine ⟨?_,by omega⟩;apply Array.ext_getElem?;intro k;rw [Array.getElem?_append];split
 ·rename_i hk;exact h5 k hk
 ·rename_i hk
  rw [Array.getElem?_extract];split
  ·congr 1;omega
  ·rename_i hlt
   exact Array.getElem?_eq_none (by omega)
theorem Up.refl (w:World):Up w w:=⟨bh _ _,ar _⟩
theorem Up.trans {a b c:World} (h:Up a b) (k:Up b c):Up a c:=⟨below2 h.below k.below,Nat.le_trans h.drawn k.drawn⟩
theorem zu (a b:Actor) (w:World) :
 Calls prog 217 #[.agg #[.int .i64 a.dev,.int .i64 a.inc],.agg #[.int .i64 b.dev,.int .i64 b.inc]] w fun e w'=>e=.returned (.int .i64 (eG a b))/\Up w w':=by
 go_enter func217,ntmps217;go_wp2;go_region_held3 (fun w'=>w'.cell? ⟨w.heap.size,0,none⟩=some (.int .i64 a.dev)/\w'.cell? ⟨w.heap.size,1,none⟩=some (.int .i64 a.inc)/\w'.cell? ⟨w.heap.size+1,0,none⟩=some (.int .i64 b.dev)/\w'.cell? ⟨w.heap.size+1,1,none⟩=some (.int .i64 b.inc)) (go_keep)
  (first
   | (go_at_call 233;refine (pF _ _ _).mono ?_;rintro e w1 ⟨rfl,rfl⟩)
   | (go_at_call 230;go_call FQ (rY a.dev b.dev) (rY a.inc b.inc) as e w1 ⟨rfl,rfl⟩))
 go_wp2;go_ret;exact ⟨rfl,by go_grown,Nat.le_succ _⟩
theorem P5 (a b:Dot) (w:World) :
 Calls prog 192 #[.agg #[.int .i64 a.a.dev,.int .i64 a.a.inc,.int .i64 a.seq],.agg #[.int .i64 b.a.dev,.int .i64 b.a.inc,.int .i64 b.seq]] w fun e w'=>e=.returned (.int .i64 (oM a b))/\Up w w':=by
 go_enter func192,ntmps192;go_wp2;go_region_held3 (fun w'=>w'.cell? ⟨w.heap.size,0,none⟩=some (.int .i64 a.a.dev)/\w'.cell? ⟨w.heap.size,1,none⟩=some (.int .i64 a.a.inc)/\w'.cell? ⟨w.heap.size,2,none⟩=some (.int .i64 a.seq)/\w'.cell? ⟨w.heap.size+1,0,none⟩=some (.int .i64 b.a.dev)/\w'.cell? ⟨w.heap.size+1,1,none⟩=some (.int .i64 b.a.inc)/\w'.cell? ⟨w.heap.size+1,2,none⟩=some (.int .i64 b.seq)) (first | (refine ⟨?_,?_,?_,?_,?_,?_⟩ <;> ((with_reducible refine kept hb ?_);simp [*];done)) | go_keep)
  (first
   | (go_at_call 233;refine (pF _ _ _).mono ?_;rintro e w1 ⟨rfl,rfl⟩)
   | (go_at_call 217;refine (zu a.a b.a _).mono ?_;rintro e w1 ⟨rfl,hb,hd⟩)
   | (go_at_call 230;go_call FQ (eG a.a b.a) (rY a.seq b.seq) as e w2 ⟨rfl,rfl⟩))
 go_wp2;go_ret;have h0:Below w.heap.size w ((w.alloc (Obj.cells #[.int .i64 a.a.dev,.int .i64 a.a.inc,.int .i64 a.seq] 76)).alloc (Obj.cells #[.int .i64 b.a.dev,.int .i64 b.a.inc,.int .i64 b.seq] 76)).drew:=by go_grown
 refine ⟨rfl,(h0.trans (hb.mono h0.size)).alloc (by have:=(below2 h0 hb).size;omega) _,?_⟩;have hd':w.drawn+1<=w1.drawn:=hd;show w.drawn<=w1.drawn;omega
theorem JP (a b:Dot) (w:World):Calls prog 191 #[bZ a,bZ b] w fun e w'=>e=.returned (.int .i64 (oM a b))/\Up w w':=by
 have HO:=aq (fun X=>P5 a b X);go_enter func191,ntmps191;go_wp2_with (go_at_call 192;(with_reducible refine (HO.out _).mono ?_);rintro e w1 ⟨rfl,hb⟩)
 go_ret;exact ⟨rfl,below2 (by go_grown) hb.below,hb.drawn⟩
theorem Fp (a b:Actor) (w:World):Calls prog 221 #[fD a,fD b] w fun e w'=>e=.returned (.int .i64 (eG a b))/\Up w w':=by
 have HO:=aq (fun X=>zu a b X);go_enter func221,ntmps221;go_wp2_with (go_at_call 217;(with_reducible refine (HO.out _).mono ?_);rintro e w1 ⟨rfl,hb⟩)
 go_ret;exact ⟨rfl,below2 (by go_grown) hb.below,hb.drawn⟩
end Go.Proofs.YthphepeniaemoaaGreat
/- Sorted lists, plainly: dots each once; what a sort leaves. Conditions: none. -/
namespace Go.Proofs.YthphepeniaemoaaGreat
open Go.RowKit
/-- strictly rising lists with the same members are one -/
theorem zU {α:Type} {lt:α->α->Bool} (irr:∀ x,lt x x=false) (tr:∀ x y z,lt x y=true->lt y z=true->lt x z=true) :
 ∀ {l m:List α},l.Pairwise (fun x y=>lt x y=true)->m.Pairwise (fun x y=>lt x y=true)->(∀ x,x∈l↔x∈m)->l=m
 | [],[],_,_,_=>rfl
 | [],b :: s,_,_,h=>by have:=(h b).2 (by simp);simp at this
 | a :: r,[],_,_,h=>by have:=(h a).1 (by simp);simp at this
 | a :: r,b :: s,h1,h2,h=>by
   obtain ⟨a1,a2⟩:=List.pairwise_cons.1 h1;obtain ⟨b1,b2⟩:=List.pairwise_cons.1 h2;have hab:a=b:=by
     rcases List.mem_cons.1 ((h a).1 (by simp)) with e | ha
     ·exact e
     ·rcases List.mem_cons.1 ((h b).2 (by simp)) with e | hb
      ·exact e.symm
      ·have:=tr _ _ _ (a1 b hb) (b1 a ha)
       rw [irr] at this
       cases this
   subst hab;rw [zU irr tr a2 b2 (fun p=>⟨fun hp=>by
     rcases List.mem_cons.1 ((h p).1 (by simp [hp])) with e | hp'
     ·have:=a1 p hp
      rw [e,irr] at this
      cases this
     ·exact hp',fun hp=>by
     rcases List.mem_cons.1 ((h p).2 (by simp [hp])) with e | hp'
     ·have:=b1 p hp
      rw [e,irr] at this
      cases this
     ·exact hp'⟩)]
theorem fO (d:Dot):cu d d=false:=by unfold cu bC;simp
theorem iL {a b c:Dot} (h:cu a b=true) (k:cu b c=true):cu a c=true:=by
 unfold cu bC at *;simp only [Bool.or_eq_true,Bool.and_eq_true,decide_eq_true_eq] at *;omega
theorem pz {a b:Dot} (h:a≠b) (k:cu a b=false):cu b a=true:=by
 unfold cu bC at *;simp only [Bool.or_eq_true,Bool.or_eq_false_iff,Bool.and_eq_true,Bool.and_eq_false_iff,decide_eq_true_eq,decide_eq_false_iff_not] at *;have:¬ (a.a.dev=b.a.dev/\a.a.inc=b.a.inc/\a.seq=b.seq):=fun e=>h (by obtain ⟨⟨a1,a2⟩,a3⟩:=a;obtain ⟨⟨b1,b2⟩,b3⟩:=b;simp_all);omega
def SrtD (l:List Dot):Prop:=l.Pairwise fun x y=>cu x y=true
/-- one dot more, in its place, once -/
def jF (d:Dot):List Dot->List Dot
 | []=>[d]
 | x :: l=>if cu x d=true then x :: jF d l else if x=d then x :: l else d :: x :: l
def sortD (l:List Dot):List Dot:=l.foldl (fun o d=>jF d o) []
theorem z83 {p : Prop} (h : p := by
 rintro (h | h | h)
 ·exact bd (bb h)
 ·exact bb h
 ·exact bd (bd h)) : p := h
theorem BN {d:Dot}:∀ {l:List Dot} {x:Dot},x∈jF d l↔x=d\/x∈l
 | [],x=>by simp [jF]
 | y :: l,x=>by
   unfold jF;split
   ·rw [List.mem_cons,BN,List.mem_cons]
    constructor
    ·exact z83
    ·exact z83
   ·split
    ·rename_i h
     subst h;simp
    ·simp
theorem Iu {d:Dot}:∀ {l:List Dot},SrtD l->SrtD (jF d l)
 | [],_=>by simp [jF,SrtD]
 | x :: l,h=>by
   obtain ⟨h1,h2⟩:=List.pairwise_cons.1 h;unfold jF;split
   ·rename_i hlt
    refine List.pairwise_cons.2 ⟨fun y hy=>?_,Iu h2⟩;rcases BN.1 hy with rfl | hy
    ·exact hlt
    ·exact h1 y hy
   ·rename_i hlt
    split
    ·exact h
    ·rename_i hne
     have hdx:=pz hne (Bool.eq_false_iff.2 hlt);refine List.pairwise_cons.2 ⟨fun y hy=>?_,h⟩;rcases List.mem_cons.1 hy with rfl | hy
     ·exact hdx
     ·exact iL hdx (h1 y hy)
theorem EG:∀ (l:List Dot) {o:List Dot},SrtD o->SrtD (l.foldl (fun o d=>jF d o) o)
 | [],_,h=>h
 | _ :: l,_,h=>EG l (Iu h)
theorem EH:∀ (l:List Dot) {o:List Dot} {x:Dot},x∈l.foldl (fun o d=>jF d o) o↔x∈o\/x∈l
 | [],o,x=>by simp
 | d :: l,o,x=>by
   rw [List.foldl_cons,EH l,BN,List.mem_cons];constructor
   ·rintro ((h | h) | h)
    ·exact bd (bb h)
    ·exact bb h
    ·exact bd (bd h)
   ·rintro (h | h | h)
    ·exact bb (bd h)
    ·exact bb (bb h)
    ·exact bd h
theorem nH (l:List Dot):SrtD (sortD l):=EG l List.Pairwise.nil
theorem fV {l:List Dot} {x:Dot}:x∈sortD l↔x∈l:=by unfold sortD;rw [EH];simp
theorem Aj {l m:List Dot} (h:SrtD l) (k:SrtD m) (e:∀ x,x∈l↔x∈m):l=m:=zU fO (fun _ _ _=>iL) h k e
theorem SrtD.nodup {l:List Dot} (h:SrtD l):l.Nodup:=h.imp fun {a b} hab e=>by rw [e,fO] at hab;cases hab
theorem JQ {l:List Dot} (h:SrtD l):sortD l=l:=Aj (nH l) h fun _=>fV
theorem zi (d:Dot):∀ l:List Dot,(jF d l).length<=l.length+1
 | []=>by simp [jF]
 | x :: l=>by
   have:=zi d l;unfold jF;split
   ·simp only [List.length_cons];omega
   ·split <;> simp
theorem xx:∀ (l o:List Dot),(l.foldl (fun o d=>jF d o) o).length<=o.length+l.length
 | [],o=>by simp
 | d :: l,o=>by
   have h1:=xx l (jF d o);have h2:=zi d o;simp only [List.foldl_cons,List.length_cons];omega
theorem gX (l:List Dot):(sortD l).length<=l.length:=by have:=xx l [];simpa [sortD] using this
theorem CV (a b:Dot):decide (oM a b<0)=cu a b:=EX a b
theorem xN (a b:Actor):decide (eG a b<0)=bC a b:=by
 unfold eG rY orI bC;rw [Bool.eq_iff_iff];simp only [Bool.or_eq_true,Bool.and_eq_true,decide_eq_true_eq];repeat' split
 all_goals omega
/-- what a sort of unlike elements leaves is strictly rising -/
theorem uJ {α:Type} [Inhabited α] {lt:α->α->Bool} (tot:∀ x y,x≠y->lt x y=false->lt y x=true) {d:Array α} (h:Go.Sort.SortedIn lt 0 d.size d) (hn:d.toList.Nodup):d.toList.Pairwise fun x y=>lt x y=true:=by
 rw [List.pairwise_iff_getElem];intro i j hi hj hij;have hi':i<d.size:=by simpa using hi
 have hj':j<d.size:=by simpa using hj
 have h1:=h i j (Nat.zero_le _) hij hj';rw [getElem!_pos d j hj',getElem!_pos d i hi'] at h1;have hne:d.toList[i]≠d.toList[j]:=List.pairwise_iff_getElem.1 hn i j hi hj hij;simp only [Array.getElem_toList] at hne ⊢;exact tot _ _ hne.symm h1
end Go.Proofs.YthphepeniaemoaaGreat
/- slices.SortFunc at a slice of one's own: dots, actors. Conditions: fewer than 2^30. -/
namespace Go.Proofs.YthphepeniaemoaaGreat
open Go.RowKit Go.Shelf
section
variable {α:Type} [Inhabited α] {enc:α->List Value} {k:Nat}
theorem flat_get (hk:∀ x,(enc x).length=k) (k0:0<k):∀ (l:List α) (t:Nat),t<l.length * k->(l.flatMap enc)[t]?=some ((enc l[t / k]!)[t % k]!)
 | [],t,h=>by simp at h
 | x :: l,t,h=>by
   rw [List.flatMap_cons];by_cases ht:t<k
   ·rw [List.getElem?_append_left (by rw [hk];exact ht),Nat.div_eq_of_lt ht,Nat.mod_eq_of_lt ht]
    have hlt:t<(enc x).length:=by rw [hk];exact ht
    simp [hlt]
   ·have ht':k<=t:=by omega
    rw [List.getElem?_append_right (by rw [hk];exact ht'),hk];have h2:t - k<l.length * k:=by
        simp only [List.length_cons,Nat.add_mul,Nat.one_mul] at h;omega
    rw [flat_get hk k0 l (t - k) h2];obtain ⟨u,rfl⟩:∃ u,t=u+k:=⟨t - k,by omega⟩;rw [Nat.add_sub_cancel,Nat.add_div_right u k0,Nat.add_mod_right];simp
theorem EK (hk:∀ x,(enc x).length=k) (k0:0<k) (l:List α) (t:Nat) (h:t<l.length * k):(l.flatMap enc)[t]?=some (Go.Sort.flatK enc k l.toArray)[t]!:=by
 rw [flat_get hk k0 l t h,Go.Sort.get_flatK _ _ _ _ (by simpa using h)];simp
omit [Inhabited α] in
theorem tX (hk:∀ x,(enc x).length=k):∀ l:List α,(l.flatMap enc).length=l.length * k
 | []=>by simp
 | x :: l=>by rw [List.flatMap_cons,av,tX hk l,hk,List.length_cons,Nat.add_mul,Nat.one_mul,Nat.add_comm]
theorem BQ (hk:∀ x,(enc x).length=k) (k0:0<k) {w:World} {g:Nat} {cur:Array Value} {e:TypeId} {l:List α} (hb:w.heap[g]?=some (.cells cur e (0,0))) (ht:cur.toList.take (l.length * k)=l.flatMap enc):Go.Sort.HoldsK enc k w g 0 l.toArray:=by
 intro j hj;have hj':j<l.length * k:=by simpa using hj
 refine ⟨?_,by simp [World.frozen?,hb]⟩;have h1:(cur.toList.take (l.length * k))[j]?=(l.flatMap enc)[j]?:=by rw [ht]
 rw [List.getElem?_take_of_lt hj',EK hk k0 l j hj'] at h1;simp only [World.cell?,hb,aw];simp only [Option.isSome_none,Bool.false_eq_true,if_false];rw [<- Array.getElem?_toList,h1];rfl
theorem KL {w:World} {g n:Nat} {os:Array Obj} {cur:Array Value} {e:TypeId} {fr:Nat×Nat} (d:Array α) (hb:w.heap[g]?=some (.cells cur e fr)) :
 (sortWorldK enc k w g 0 n d os).heap[g]?=some (.cells (Go.Sort.putCells id 0 (Go.Sort.flatK enc k d) cur) e fr):=by
 have hg:g<w.heap.size:=(Array.getElem?_eq_some_iff.1 hb).1;unfold sortWorldK Go.Sort.putRowK;rw [Go.Sort.heap_grow_old _ _ (by simpa [Go.Sort.putRow,Go.Sort.mapBlock,Go.Sort.ahead] using hg)];simp [Go.Sort.putRow,Go.Sort.mapBlock,Go.Sort.ahead,Array.getElem?_modify,hb,Go.Sort.onCells]
theorem IJ {w:World} {g n:Nat} {os:Array Obj} (d:Array α):Fr (isR g) w (sortWorldK enc k w g 0 n d os):=by
 unfold sortWorldK Go.Sort.putRowK;refine ⟨rfl,rfl,rfl,by simp [Go.Sort.putRow,Go.Sort.mapBlock,Go.Sort.ahead],fun j hj hne=>?_⟩;rw [Go.Sort.heap_grow_old _ _ (by simpa [Go.Sort.putRow,Go.Sort.mapBlock,Go.Sort.ahead] using hj)];have:g≠j:=fun e=>hne e.symm;simp [Go.Sort.putRow,Go.Sort.mapBlock,Go.Sort.ahead,Array.getElem?_modify,this]
theorem Nl (hk:∀ x,(enc x).length=k) (k0:0<k) (cur:Array Value) (l:List α) (h:l.length * k<=cur.size):(Go.Sort.putCells id 0 (Go.Sort.flatK enc k l.toArray) cur).toList.take (l.length * k)=l.flatMap enc:=by
 apply List.ext_getElem?;intro j;by_cases hj:j<l.length * k
 ·have hjc:j<cur.size:=by omega
  have hjf:j<(Go.Sort.flatK enc k l.toArray).size:=by simpa using hj
  rw [List.getElem?_take_of_lt hj,Array.getElem?_toList,EK hk k0 l j hj];simp only [Go.Sort.putCells,Array.getElem?_mapIdx,Array.getElem?_eq_getElem hjc,Option.map_some,aw,Nat.zero_le,true_and,if_pos hjf,Nat.sub_zero,id]
 ·rw [List.getElem?_take_eq_none (by omega),List.getElem?_eq_none (by rw [tX hk];omega)]
theorem uP (hk:∀ x,(enc x).length=k) (k0:0<k) {w:World} {base g cap n:Nat} {e:TypeId} {os:Array Obj} {cur:Array Value} {ss ts:List α} (hl:ts.length=ss.length) (hbase:base<=g) (hb:w.heap[g]?=some (.cells cur e (0,0)))
 (h1:ss.length<=cap) (h2:cap<=maxLen) (h3:cur.size=cap * k) :
 (sortWorldK enc k w g 0 n ts.toArray os).ownsRow base e k (.slice (some ⟨g,0,none⟩) ss.length cap) ss.length (ts.flatMap enc) :=
 ⟨by rw [tX hk,hl],.inr ⟨g,cap,_,rfl,hbase,KL _ hb,h1,h2,by simp [Go.Sort.putCells,h3],by
  rw [<- hl];exact Nl hk k0 cur ts (by rw [hl,h3];exact Nat.mul_le_mul_right k h1)⟩⟩
end
instance:Inhabited Actor:=⟨⟨0,0⟩⟩
instance:Inhabited Dot:=⟨⟨⟨0,0⟩,0⟩⟩
def CO (d:Dot):List Value:=[.int .i64 d.a.dev,.int .i64 d.a.inc,.int .i64 d.seq]
def uh (a:Actor):List Value:=[.int .i64 a.dev,.int .i64 a.inc]
theorem Uk:Go.Sort.SWO (ltOf oM):=by
 have e:∀ x y,ltOf oM x y=cu x y:=fun x y=>CV x y;refine ⟨fun x=>by rw [e];exact fO x,fun x y z h k=>?_,fun x y z h k=>?_⟩
 ·rw [e] at h k ⊢;exact iL h k
 ·rw [e] at h k ⊢
  cases hh:cu x z with
  | false=>rfl
  | true =>
    by_cases hxy:x=y
    ·subst hxy;rw [k] at hh;cases hh
    ·have h1:=pz hxy h
     have h2:=iL h1 hh;rw [k] at h2;cases h2
theorem PD:Go.Sort.SWO (ltOf eG):=by
 have e:∀ x y,ltOf eG x y=bC x y:=fun x y=>xN x y;refine ⟨fun x=>by rw [e];exact dF x,fun x y z h k=>?_,fun x y z h k=>?_⟩
 ·rw [e] at h k ⊢;exact jd h k
 ·rw [e] at h k ⊢
  cases hh:bC x z with
  | false=>rfl
  | true =>
    by_cases hxy:x=y
    ·subst hxy;rw [k] at hh;cases hh
    ·have h1:=lQ hxy h
     have h2:=jd h1 hh;rw [k] at h2;cases h2
theorem Lh (blk off size:Nat) (w:World):CmpLays prog 191 #[] CO 3 oM blk off size w :=
 fun _ _ _ _ x y=>(JP x y _).mono fun _ _ ⟨he,hu⟩=>⟨he,hu.grown⟩
theorem z134 {p : Prop} (h : p := by
 have := p3
 rwa [show d'.extract 0 ks.length = d' by rw [<- hsz]; simp, show ks.toArray.extract 0 ks.length = ks.toArray by simp] at this) : p := h
theorem PI (base:Nat) (v:Value) (ks:List Dot) (w:World) (hown:w.ownsRow base 76 3 v ks.length (aJ ks)) (hl:ks.length<=1073741824) :
 Calls prog 235 #[v,.func (.func 191) #[] #[]] w fun e w'=>e=.returned (.tuple #[])/\∃ ts:List Dot,ts.Perm ks/\Go.Sort.SortedIn cu 0 ts.toArray.size ts.toArray/\w'.ownsRow base 76 3 v ks.length (aJ ts)/\Fr (fun k=>v.ownBlock=some k) w w':=by
 rcases hown.2 with ⟨rfl,hz⟩ | ⟨g,cap,cur,rfl,hbase,hgb,r1,r2,r3,r4⟩
 ·obtain rfl:ks=[]:=List.eq_nil_of_length_eq_zero hz
  refine (AnyF.slices_SortFunc_none Tryz.sortDot none 0 _ w).mono ?_;rintro e w' ⟨rfl,rfl⟩;exact ⟨rfl,[],List.Perm.refl _,fun i j _ _ h=>by simp at h,hown,Fr.refl _ _⟩
 ·have hH:Go.Sort.HoldsK CO 3 w g 0 ks.toArray:=BQ (k:=3) (fun _=>rfl) (by decide) hgb r4
  have hgl:g<w.heap.size:=(Array.getElem?_eq_some_iff.1 hgb).1;have hc:=AnyQ.slices_SortFunc Tryz.sortDot 3 Tryz.isAgg76 Tryz.sizeOf76 CO (fun _=>rfl) (fun x v hv=>by simp [CO] at hv;rcases hv with rfl | rfl | rfl <;> rfl) oM Uk 191 #[] g 0 cap ks.toArray w (enters_of func191 (by kernel_rfl) rfl) (Lh g 0 _ w) hH hgl (by simp;omega);rw [List.size_toArray] at hc;refine hc.mono ?_;rintro e w' ⟨rfl,d',n,os,⟨p1,p2,p3⟩,hs,rfl⟩;have hd:d'=d'.toList.toArray:=by simp
  have hsz:d'.size=ks.length:=by simpa using p1
  have hperm:d'.toList.Perm ks:=by
   exact z134
  refine ⟨rfl,d'.toList,hperm,?_,?_,?_⟩
  ·have e:ltOf oM=cu:=by funext x y;exact CV x y
   rw [e] at hs;simpa [hsz] using hs
  ·have h9:=uP (enc:=CO) (k:=3) (ts:=d'.toList) (ss:=ks) (n:=n) (os:=os) (fun _=>rfl) (by decide) (by simpa using hsz) hbase hgb r1 r2 r3
   rw [<- hd] at h9;exact h9
  ·exact (IJ d').mono fun k _ hk=>by subst hk;rfl
theorem Gi (blk off size:Nat) (w:World):CmpLays prog 221 #[] uh 2 eG blk off size w :=
 fun _ _ _ _ x y=>(Fp x y _).mono fun _ _ ⟨he,hu⟩=>⟨he,hu.grown⟩
theorem JO (base:Nat) (v:Value) (ks:List Actor) (w:World) (hown:w.ownsRow base 74 2 v ks.length (iy ks)) (hl:ks.length<=1073741824) :
 Calls prog 257 #[v,.func (.func 221) #[] #[]] w fun e w'=>e=.returned (.tuple #[])/\∃ ts:List Actor,ts.Perm ks/\Go.Sort.SortedIn bC 0 ts.toArray.size ts.toArray/\w'.ownsRow base 74 2 v ks.length (iy ts)/\Fr (fun k=>v.ownBlock=some k) w w':=by
 rcases hown.2 with ⟨rfl,hz⟩ | ⟨g,cap,cur,rfl,hbase,hgb,r1,r2,r3,r4⟩
 ·obtain rfl:ks=[]:=List.eq_nil_of_length_eq_zero hz
  refine (AnyF.slices_SortFunc_none Tryz.sortActor none 0 _ w).mono ?_;rintro e w' ⟨rfl,rfl⟩;exact ⟨rfl,[],List.Perm.refl _,fun i j _ _ h=>by simp at h,hown,Fr.refl _ _⟩
 ·have hH:Go.Sort.HoldsK uh 2 w g 0 ks.toArray:=BQ (k:=2) (fun _=>rfl) (by decide) hgb r4
  have hgl:g<w.heap.size:=(Array.getElem?_eq_some_iff.1 hgb).1;have hc:=AnyQ.slices_SortFunc Tryz.sortActor 2 Tryz.isAgg74 Tryz.sizeOf74 uh (fun _=>rfl) (fun x v hv=>by simp [uh] at hv;rcases hv with rfl | rfl <;> rfl) eG PD 221 #[] g 0 cap ks.toArray w (enters_of func221 (by kernel_rfl) rfl) (Gi g 0 _ w) hH hgl (by simp;omega);rw [List.size_toArray] at hc;refine hc.mono ?_;rintro e w' ⟨rfl,d',n,os,⟨p1,p2,p3⟩,hs,rfl⟩;have hd:d'=d'.toList.toArray:=by simp
  have hsz:d'.size=ks.length:=by simpa using p1
  have hperm:d'.toList.Perm ks:=by
   exact z134
  refine ⟨rfl,d'.toList,hperm,?_,?_,?_⟩
  ·have e:ltOf eG=bC:=by funext x y;exact xN x y
   rw [e] at hs;simpa [hsz] using hs
  ·have h9:=uP (enc:=uh) (k:=2) (ts:=d'.toList) (ss:=ks) (n:=n) (os:=os) (fun _=>rfl) (by decide) (by simpa using hsz) hbase hgb r1 r2 r3
   rw [<- hd] at h9;exact h9
  ·exact (IJ d').mono fun k _ hk=>by subst hk;rfl
end Go.Proofs.YthphepeniaemoaaGreat
/- The sorted keys of a map; dot.Sort. Conditions: at most 2^30 of them. -/
namespace Go.Proofs.YthphepeniaemoaaGreat
open Go.RowKit Go.Shelf
theorem Ij (mb:Option Nat) (w:World):Calls prog 190 #[.map mb] w fun e w'=>e=.returned (.func (.func 236) #[] #[.pointer (some ⟨w.heap.size,0,none⟩)])/\w'=w.alloc (.cells #[.map mb] 121):=by
 go_enter func190,ntmps190;go_wp2;go_ret;exact ⟨rfl,rfl⟩
theorem z136 {p : Prop} (h : p := by
 rw [HP.out.2]
 constructor
 ·intro h; subst h; exact List.Perm.eq_nil hts
 ·intro h; subst h; exact (List.Perm.eq_nil hts.symm)) : p := h
theorem Dn {β:Type} {vv:β->Value} (Bm b:Nat) (m:List (Dot×β)) (w:World) (hBm:Bm<w.heap.size) (hm:w.cell? ⟨Bm,0,none⟩=some (.map (some b))) (htab:Tab prog 76 bZ DotW vv w b m) (hN:m.length<=1073741824) :
 Calls prog 189 #[.func (.func 236) #[] #[.pointer (some ⟨Bm,0,none⟩)],.func (.func 191) #[] #[]] w fun e w'=>∃ (v:Value) (ts:List Dot),e=.returned v/\ts.Perm (m.map (·.1)) /\
  (ts.Pairwise fun x y=>cu x y=true)/\w'.ownsRow w.heap.size 76 3 v ts.length (aJ ts)/\(v=.slice none 0 0↔ts=[])/\Below w.heap.size w w':=by
 have hnd:(m.map (·.1)).Nodup:=by
  have:=htab.apart;exact List.pairwise_map.2 this
 have HAP:=aq (callsIn_wide.1 (O3 4 (by omega) Bm b m w hBm hm htab hN));have HC:Hid (Calls prog 234 #[.func (.func 236) #[] #[.pointer (some ⟨Bm,0,none⟩)]] w fun e w'=>∃ (v:Value) (ks:List Dot),e=.returned v/\ks.Perm (m.map (·.1)) /\
  w'.ownsRow w.heap.size 76 3 v ks.length (aJ ks)/\(v=.slice none 0 0↔ks=[])/\Below w.heap.size w w'):=by
  clear hm htab;go_enter func234,ntmps234;go_wp2_with (go_at_call 264;(with_reducible refine HAP.out.mono ?_);rintro e w1 ⟨v,ks,rfl,h1,h2,h3,h4⟩)
  go_ret;exact ⟨v,ks,rfl,h1,h2,h3,h4⟩
 have HND:=aq hnd;have HN:=aq hN;clear hm htab hnd hN HAP;go_enter func189,ntmps189;go_upto_region 2 with (go_at_call 234;(with_reducible refine HC.out.mono ?_);rintro e w1 ⟨v,ks,rfl,hp,hown,hnil,hb⟩)
 have hlen:ks.length<=1073741824:=by rw [hp.length_eq,List.length_map];exact HN.out
 have HS:=aq (PI w.heap.size v ks w1 hown hlen);have HP:=aq (ba hp hnil);have HO:=aq hown;clear hp hnil hown hlen;go_wp2_with (go_at_call 235;(with_reducible refine HS.out.mono ?_);rintro e w2 ⟨rfl,ts,hts,hsrt,hown2,hf2⟩)
 go_ret;have hpm:=hts.trans HP.out.1;refine ⟨v,ts,rfl,hpm,?_,by rw [hts.length_eq];exact hown2,?_,hb.trans (hf2.below hb.size (fun k hk=>(HO.out.lt k hk).1))⟩
 ·have h5:=uJ (lt:=cu) (fun x y h k=>pz h k) (d:=ts.toArray) hsrt (by
   simp only [];exact (hpm.nodup_iff).2 HND.out)
  simpa using h5
 ·exact z136
theorem DJ (mb:Option Nat) (w:World):Calls prog 220 #[.map mb] w fun e w'=>e=.returned (.func (.func 258) #[] #[.pointer (some ⟨w.heap.size,0,none⟩)])/\w'=w.alloc (.cells #[.map mb] 179):=by
 go_enter func220,ntmps220;go_wp2;go_ret;exact ⟨rfl,rfl⟩
theorem zK {β:Type} {vv:β->Value} (Bm b:Nat) (m:List (Actor×β)) (w:World) (hBm:Bm<w.heap.size) (hm:w.cell? ⟨Bm,0,none⟩=some (.map (some b))) (htab:Tab prog 74 fD ActW vv w b m) (hN:m.length<=1073741824) :
 Calls prog 219 #[.func (.func 258) #[] #[.pointer (some ⟨Bm,0,none⟩)],.func (.func 221) #[] #[]] w fun e w'=>∃ (v:Value) (ts:List Actor),e=.returned v/\ts.Perm (m.map (·.1)) /\
  (ts.Pairwise fun x y=>bC x y=true)/\w'.ownsRow w.heap.size 74 2 v ts.length (iy ts)/\(v=.slice none 0 0↔ts=[])/\Below w.heap.size w w':=by
 have hnd:(m.map (·.1)).Nodup:=by
  have:=htab.apart;exact List.pairwise_map.2 this
 have HAP:=aq (callsIn_wide.1 (Jn 4 (by omega) Bm b m w hBm hm htab hN));have HC:Hid (Calls prog 256 #[.func (.func 258) #[] #[.pointer (some ⟨Bm,0,none⟩)]] w fun e w'=>∃ (v:Value) (ks:List Actor),e=.returned v/\ks.Perm (m.map (·.1)) /\
  w'.ownsRow w.heap.size 74 2 v ks.length (iy ks)/\(v=.slice none 0 0↔ks=[])/\Below w.heap.size w w'):=by
  clear hm htab;go_enter func256,ntmps256;go_wp2_with (go_at_call 275;(with_reducible refine HAP.out.mono ?_);rintro e w1 ⟨v,ks,rfl,h1,h2,h3,h4⟩)
  go_ret;exact ⟨v,ks,rfl,h1,h2,h3,h4⟩
 have HND:=aq hnd;have HN:=aq hN;clear hm htab hnd hN HAP;go_enter func219,ntmps219;go_upto_region 2 with (go_at_call 256;(with_reducible refine HC.out.mono ?_);rintro e w1 ⟨v,ks,rfl,hp,hown,hnil,hb⟩)
 have hlen:ks.length<=1073741824:=by rw [hp.length_eq,List.length_map];exact HN.out
 have HS:=aq (JO w.heap.size v ks w1 hown hlen);have HP:=aq (ba hp hnil);have HO:=aq hown;clear hp hnil hown hlen;go_wp2_with (go_at_call 257;(with_reducible refine HS.out.mono ?_);rintro e w2 ⟨rfl,ts,hts,hsrt,hown2,hf2⟩)
 go_ret;have hpm:=hts.trans HP.out.1;refine ⟨v,ts,rfl,hpm,?_,by rw [hts.length_eq];exact hown2,?_,hb.trans (hf2.below hb.size (fun k hk=>(HO.out.lt k hk).1))⟩
 ·have h5:=uJ (lt:=bC) (fun x y h k=>lQ h k) (d:=ts.toArray) hsrt (by
   simp only [];exact (hpm.nodup_iff).2 HND.out)
  simpa using h5
 ·exact z136
end Go.Proofs.YthphepeniaemoaaGreat
/- dot.Sort. Conditions: at most 2^30 dots. -/
namespace Go.Proofs.YthphepeniaemoaaGreat
open Go.RowKit Go.Shelf
theorem DotsIn.at {w:World} {a:Option Addr} {l:List Dot} (h:DotsIn w a l) {k:Nat} (hk:k<l.length) :
 ∃ A off,a=some ⟨A,off,none⟩/\w.cell? ⟨A,off+k * 3,none⟩=some (.int .i64 l[k].a.dev)/\w.cell? ⟨A,off+k * 3+1,none⟩=some (.int .i64 l[k].a.inc)/\w.cell? ⟨A,off+k * 3+2,none⟩=some (.int .i64 l[k].seq):=by
 rcases h with rfl | ⟨A,off,h1,h2⟩
 ·simp at hk
 ·exact ⟨A,off,h1,h2.dev k hk,h2.inc k hk,h2.seq k hk⟩
/-- a count goes up -/
theorem Tab.count {w:World} {b:Nat} {m:List (Dot×Int)} (h:Tab prog 76 bZ DotW mF w b m) (hl:m.length+1<maxLen) {d:Dot} (hd:DotW d) :
 ∃ (n:Int) (st:Nat) (w1 w2:World) (m':List (Dot×Int)),(Instr.lookup 121 (.map (some b)) (bZ d) false).run prog w=.ok (.int .i64 n) w /\
   (Instr.lookup 121 (.map (some b)) (bZ d) false).run prog w1=.ok (.int .i64 n) w1 /\
   (∃ v0,(Instr.mapEntry 121 (.map (some b)) (bZ d)).run prog w=.ok (.tuple #[v0,.int .i64 (st:Int)]) w1)/\Fr (isR b) w w1 /\
   (Instr.entryStore 121 (.map (some b)) (.int .i64 (st:Int)) (.int .i64 (IntKind.i64.wrap (n+1)))).run prog w1=.ok () w2/\Fr (isR b) w w2 /\
   Tab prog 76 bZ DotW mF w2 b m'/\(∀ x,x∈m'.map (·.1)↔x=d\/x∈m.map (·.1))/\m'.length<=m.length+1:=by
 have hz:∀ u:World,(zeroValue 3).run prog u=.ok (.int .i64 0) u:=fun u=>by kernel_rfl
 have hkey:=jE.lit hd;have hown:=h;obtain ⟨D,hD,hTD⟩:=hown;by_cases hm:∃ c,(d,c)∈m
 ·obtain ⟨c,hc⟩:=hm
  obtain ⟨r,hr⟩:=jV hc;have hlr:=hr.length_eq;have hlook:=h.look_hit jE underlying121 (hz w) hc false;obtain ⟨w2,hrun2,BO,hf2⟩:=(h.perm hr).store_old jE underlying121 (by simp at hlr;omega) (IntKind.i64.wrap (c+1));rcases Ba jE.law hD underlying121 hz hkey with ⟨v0,st,he,hs⟩ | ⟨st,w1,he,hu,hno,hs⟩
  ·refine ⟨c,st,w,w2,_,hlook,hlook,⟨v0,he⟩,Fr.refl _ _,hs _ _ hrun2,hf2,BO,fun x=>?_,by simp at hlr ⊢;omega⟩
   rw [(hr.map (·.1)).mem_iff];simp
  ·exfalso
   have hst:(Instr.lookup 121 (.map (some b)) (bZ d) true).run prog w=.ok (.tuple #[.int .i64 c,.bool true]) w:=h.look_hit jE underlying121 (hz w) hc true;rw [hno] at hst;simp at hst
 ·have hn:∀ p∈m,p.1≠d:=fun p hp e=>hm ⟨p.2,by rw [<- e];exact hp⟩
  have hlook:=h.look_miss jE underlying121 (hz w) hd hn false;obtain ⟨w2,hrun2,BO,hf2⟩:=h.store_new jE underlying121 (by omega) hd hn (IntKind.i64.wrap (0+1));rcases Ba jE.law hD underlying121 hz hkey with ⟨v0,st,he,hs⟩ | ⟨st,w1,he,hu,hno,hs⟩
  ·refine ⟨0,st,w,w2,_,hlook,hlook,⟨v0,he⟩,Fr.refl _ _,hs _ _ hrun2,hf2,BO,fun x=>?_,by simp⟩
   simp
  ·obtain ⟨w3,hrun3,MK,hf3⟩:=h.store_new jE underlying121 (by omega) hd hn 0
   obtain rfl:w1=w3:=by
        have:=hu.symm.trans hrun3
        cases this;rfl
   exact ⟨0,st,w1,w2,_,hlook,MK.look_hit jE underlying121 (hz w1) (p:=(d,0)) List.mem_cons_self false,⟨_,he⟩,hf3,hs _ _ hrun2,hf2,BO,fun x=>by simp,by simp⟩
theorem z46 {p : Prop} (h : p := by (rintro w ⟨s0, s1, s2, s3⟩; go_simp; try with_reducible rfl)) : p := h
theorem y53 {p q : Prop} (k : q) (h : PLift q -> p := by
 intro kk
 have x0 : W.drew.cell? ⟨wr.heap.size, 0, none⟩ = some (.int .i64 d.a.dev) := by rw [hW.out]; go_simp
 have x1 : W.drew.cell? ⟨wr.heap.size, 1, none⟩ = some (.int .i64 d.a.inc) := by rw [hW.out]; go_simp
 have x2 : W.drew.cell? ⟨wr.heap.size, 2, none⟩ = some (.int .i64 d.seq) := by rw [hW.out]; go_simp
 revert x0 x1 x2
 exact kk.down) : p := h ⟨k⟩
theorem zt (a:Option Addr) (cap:Nat) (l:List Dot) (w:World) (hl:l.length<=1073741824) (hok:∀ d∈l,DotW d) (hin:DotsIn w a l) :
 Calls prog 149 #[.slice a l.length cap] w fun e w'=>∃ v,e=.returned v/\w'.ownsRow w.heap.size 76 3 v (sortD l).length (aJ (sortD l))/\(v=.slice none 0 0↔sortD l=[])/\Below w.heap.size w w':=by
 have hmm:=@run_makeMap prog;have HO:=aq hok;go_enter func149,ntmps149;go_wp2;go_loopw [9] (fun i wr=>∃ (k:Nat) (m:List (Dot×Int)),i=.int .i64 k/\k<=l.length/\Tab prog 76 bZ DotW mF wr w.heap.size m/\(∀ x,x∈m.map (·.1)↔x∈l.take k)/\m.length<=k/\Below w.heap.size w wr) (fun i _=>l.length - (intOf i).toNat)
 case atStart=>exact ⟨0,[],rfl,Nat.zero_le _,Tab.made w,by simp,ar _,by go_grown⟩
 case round =>
  obtain ⟨k,m,rfl,hk,htab,hmem,hml,hbw⟩:=hrel;have HM:=aq hmem;clear hmem;by_cases hlt:k<l.length
  ·obtain ⟨A,off,rfl,e0,e1,e2⟩:=(hin.kept hbw).at hlt
   have hdw:=hok _ (List.getElem_mem hlt);have HT:Hid (∀ x,x∈l.take (k+1)↔x=l[k]\/x∈l.take k):=fun x=>by
        rw [List.take_add_one,List.getElem?_eq_getElem hlt];show x∈l.take k++[l[k]]↔_;rw [List.mem_append,List.mem_singleton];exact Or.comm
   have hzw:=hbw.size;generalize l[k]=d at e0 e1 e2 hdw HT;go_upto_region 5 with fail
   refine aI (fun W hW=>?_);have hb1:Below wr.heap.size wr W:=by rw [hW.out];go_grown
   refine y53 ?_
   intro x0 x1 x2
   clear hW e0 e1 e2
   have hbd:Below w.heap.size w W.drew:=hbw.trans (hb1.drew.mono hzw);have htw:Tab prog 76 bZ DotW mF W.drew w.heap.size m:=(htab.kept hb1.drew);have hne:wr.heap.size≠w.heap.size:=by have:=htab.lt;omega
   obtain ⟨n,st,w1,w2,m',hl0,hl1,⟨v0,he⟩,hf1,hs,hf2,BO,hm2,VM⟩:=htw.count (by unfold maxLen;omega) hdw;have HR:=aq (ba BO (ba hm2 VM));have y0:w1.cell? ⟨wr.heap.size,0,none⟩=some (.int .i64 d.a.dev):=hf1.kept x0 hne;have y1:w1.cell? ⟨wr.heap.size,1,none⟩=some (.int .i64 d.a.inc):=hf1.kept x1 hne;have y2:w1.cell? ⟨wr.heap.size,2,none⟩=some (.int .i64 d.seq):=hf1.kept x2 hne;have HF:=aq (ba hf1 hf2);have hS:=ba x0 (ba x1 (ba x2 hl0));have hS1:=ba y0 (ba y1 (ba y2 hl1));clear BO hm2 VM htw htab hf1 hf2 x0 x1 x2 y0 y1 y2 hl0 hl1 hb1;refine wp_region_noPanic ?_;refine bH (fun W'=>W'.cell? ⟨wr.heap.size,0,none⟩=some (.int .i64 d.a.dev)/\W'.cell? ⟨wr.heap.size,1,none⟩=some (.int .i64 d.a.inc)/\W'.cell? ⟨wr.heap.size,2,none⟩=some (.int .i64 d.seq)/\(Instr.lookup 121 (.map (some w.heap.size)) (bZ d) false).run prog W'=.ok (.int .i64 n) W') [6] (by kernel_rfl) ?_;refine tL (v:=?_) 0 13 rfl (bb ⟨by rfl,?_⟩) ?_
   case refine_2 => exact z46
   try simp only [pS]
   refine tL (v:=?_) 1 14 rfl (bb ⟨by rfl,?_⟩) ?_
   case refine_2 => exact z46
   try simp only [pS]
   refine tL (v:=?_) 2 15 rfl (bb ⟨by rfl,?_⟩) ?_
   case refine_2 => exact z46
   try simp only [pS]
   refine tL (v:=?_) 3 16 rfl (bb ⟨by rfl,?_⟩) ?_
   case refine_2 => exact z46
   try simp only [pS]
   refine bD (i:=4) (o:=⟨some 17,_,_,_,_,_⟩) (by kernel_rfl) rfl ?_;intro K hK;go_simp;refine hK.out _ _ (bd (hS1)) ?_;clear hK K;try simp only [pS]
   refine bD (i:=5) (o:=⟨some 18,_,_,_,_,_⟩) (by kernel_rfl) rfl ?_;intro K hK;go_simp;refine hK.out _ _ (bd (hS1)) ?_;clear hK K
   refine y48 ?_
   refine y8 ?_
   have HK:=aq hlt;clear hS hS1 he hs;go_wp2;go_roundw
   case rel=>exact ⟨k+1,m',by go_num,HK.out,HR.out.1,fun x=>by rw [HR.out.2.1,HT.out,HM.out],by have:=HR.out.2.2;omega,hbd.trans (HF.out.2.below hbd.size (fun j hj=>by subst hj;exact ar _))⟩
   case measure=>have:=HK.out;simp [intOf] <;> omega
  ·obtain rfl:k=l.length:=by omega
   have hM:=HM.out;rw [List.take_length] at hM;have HMM:=aq hM;have hz:=hbw.size;have HS:=aq (Dn wr.heap.size w.heap.size m (wr.alloc (.cells #[.map (some w.heap.size)] 121)) (by simp) (Boxed.new wr _ _).cell (htab.kept ((bh _ _).alloc (ar _) _)) (by omega));have HKS:=aq (Ij (some w.heap.size) wr);clear htab hM;go_wp2_with (first
        | (go_at_call 190;(with_reducible refine HKS.out.mono ?_);rintro e w1 ⟨rfl,rfl⟩)
        | (go_at_call 189;(with_reducible refine HS.out.mono ?_);rintro e w2 ⟨v,ts,rfl,hp,hsr,hown,hnil,hb2⟩))
   go_ret;obtain rfl:ts=sortD l:=Aj hsr (nH l) fun x=>by rw [hp.mem_iff,HMM.out,fV]
   exact ⟨v,rfl,eP hown (by simp;omega),hnil,hbw.trans (((bh _ _).alloc (ar _) _).mono hz |>.trans (hb2.mono (by simp;omega)))⟩
end Go.Proofs.YthphepeniaemoaaGreat
