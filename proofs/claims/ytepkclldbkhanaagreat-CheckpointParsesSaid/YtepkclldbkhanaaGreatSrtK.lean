/- slices.SortFunc at a slice of one's own: dots, actors. Conditions: fewer than 2^30. -/
import Derived.Test.YtepkclldbkhanaaGreatTabIn
import Derived.Test.YtepkclldbkhanaaGreatSetP
import Derived.Test.YtepkclldbkhanaaGreatSrt
import Derived.Shelf.SlSortCmp.NoneTotal
import Derived.Test.YtepkclldbkhanaaGreatTab
import Derived.Test.YtepkclldbkhanaaGreatLast
import Derived.Test.YtepkclldbkhanaaGreatClone
set_option linter.unusedSimpArgs false
set_option linter.unusedVariables false
set_option linter.unnecessarySimpa false
set_option maxHeartbeats 16000000
set_option maxRecDepth 100000
open Go.Proofs.Tryz
namespace Go.Proofs.YtepkclldbkhanaaGreat
open Go.RowKit Go.Shelf
section
variable {α:Type} [Inhabited α] {enc:α→List Value} {k:Nat}
theorem flat_get (hk:∀ x,(enc x).length=k) (k0:0<k):∀ (l:List α) (t:Nat),t<l.length * k→(l.flatMap enc)[t]?=some ((enc l[t / k]!)[t % k]!)
 | [],t,h=>by simp at h
 | x :: l,t,h=>by
   rw [List.flatMap_cons];by_cases ht:t<k
   ·rw [List.getElem?_append_left (by rw [hk];exact ht),Nat.div_eq_of_lt ht,Nat.mod_eq_of_lt ht]
    have hlt:t<(enc x).length:=by rw [hk];exact ht
    simp [hlt]
   ·have ht':k≤t:=by omega
    rw [List.getElem?_append_right (by rw [hk];exact ht'),hk];have h2:t - k<l.length * k:=by
        simp only [List.length_cons,Nat.add_mul,Nat.one_mul] at h;omega
    rw [flat_get hk k0 l (t - k) h2];obtain ⟨u,rfl⟩:∃ u,t=u+k:=⟨t - k,by omega⟩;rw [Nat.add_sub_cancel,Nat.add_div_right u k0,Nat.add_mod_right];simp
theorem Ee (hk:∀ x,(enc x).length=k) (k0:0<k) (l:List α) (t:Nat) (h:t<l.length * k):(l.flatMap enc)[t]?=some (Go.Sort.flatK enc k l.toArray)[t]!:=by
 rw [flat_get hk k0 l t h,Go.Sort.get_flatK _ _ _ _ (by simpa using h)];simp
omit [Inhabited α] in
theorem rP (hk:∀ x,(enc x).length=k):∀ l:List α,(l.flatMap enc).length=l.length * k
 | []=>by simp
 | x :: l=>by rw [List.flatMap_cons,List.length_append,rP hk l,hk,List.length_cons,Nat.add_mul,Nat.one_mul,Nat.add_comm]
theorem uI (hk:∀ x,(enc x).length=k) (k0:0<k) {w:World} {g:Nat} {cur:Array Value} {e:TypeId} {l:List α} (hb:w.heap[g]?=some (.cells cur e (0,0))) (ht:cur.toList.take (l.length * k)=l.flatMap enc):Go.Sort.HoldsK enc k w g 0 l.toArray:=by
 intro j hj;have hj':j<l.length * k:=by simpa using hj
 refine ⟨?_,by simp [World.frozen?,hb]⟩;have h1:(cur.toList.take (l.length * k))[j]?=(l.flatMap enc)[j]?:=by rw [ht]
 rw [List.getElem?_take_of_lt hj',Ee hk k0 l j hj'] at h1;simp only [World.cell?,hb,Nat.zero_add];simp only [Option.isSome_none,Bool.false_eq_true,if_false];rw [← Array.getElem?_toList,h1];rfl
theorem Kt {w:World} {g n:Nat} {os:Array Obj} {cur:Array Value} {e:TypeId} {fr:Nat×Nat} (d:Array α) (hb:w.heap[g]?=some (.cells cur e fr)) :
 (sortWorldK enc k w g 0 n d os).heap[g]?=some (.cells (Go.Sort.putCells id 0 (Go.Sort.flatK enc k d) cur) e fr):=by
 have hg:g<w.heap.size:=(Array.getElem?_eq_some_iff.1 hb).1;unfold sortWorldK Go.Sort.putRowK;rw [Go.Sort.heap_grow_old _ _ (by simpa [Go.Sort.putRow,Go.Sort.mapBlock,Go.Sort.ahead] using hg)];simp [Go.Sort.putRow,Go.Sort.mapBlock,Go.Sort.ahead,Array.getElem?_modify,hb,Go.Sort.onCells]
theorem BD {w:World} {g n:Nat} {os:Array Obj} (d:Array α):Fr (isR g) w (sortWorldK enc k w g 0 n d os):=by
 unfold sortWorldK Go.Sort.putRowK;refine ⟨rfl,rfl,rfl,by simp [Go.Sort.putRow,Go.Sort.mapBlock,Go.Sort.ahead],fun j hj hne=>?_⟩;rw [Go.Sort.heap_grow_old _ _ (by simpa [Go.Sort.putRow,Go.Sort.mapBlock,Go.Sort.ahead] using hj)];have:g≠j:=fun e=>hne e.symm;simp [Go.Sort.putRow,Go.Sort.mapBlock,Go.Sort.ahead,Array.getElem?_modify,this]
theorem MM (hk:∀ x,(enc x).length=k) (k0:0<k) (cur:Array Value) (l:List α) (h:l.length * k≤cur.size):(Go.Sort.putCells id 0 (Go.Sort.flatK enc k l.toArray) cur).toList.take (l.length * k)=l.flatMap enc:=by
 apply List.ext_getElem?;intro j;by_cases hj:j<l.length * k
 ·have hjc:j<cur.size:=by omega
  have hjf:j<(Go.Sort.flatK enc k l.toArray).size:=by simpa using hj
  rw [List.getElem?_take_of_lt hj,Array.getElem?_toList,Ee hk k0 l j hj];simp only [Go.Sort.putCells,Array.getElem?_mapIdx,Array.getElem?_eq_getElem hjc,Option.map_some,Nat.zero_add,Nat.zero_le,true_and,if_pos hjf,Nat.sub_zero,id]
 ·rw [List.getElem?_take_eq_none (by omega),List.getElem?_eq_none (by rw [rP hk];omega)]
theorem o5 (hk:∀ x,(enc x).length=k) (k0:0<k) {w:World} {base g cap n:Nat} {e:TypeId} {os:Array Obj} {cur:Array Value} {ss ts:List α} (hl:ts.length=ss.length) (hbase:base≤g) (hb:w.heap[g]?=some (.cells cur e (0,0)))
 (h1:ss.length≤cap) (h2:cap≤maxLen) (h3:cur.size=cap * k) :
 (sortWorldK enc k w g 0 n ts.toArray os).ownsRow base e k (.slice (some ⟨g,0,none⟩) ss.length cap) ss.length (ts.flatMap enc) :=
 ⟨by rw [rP hk,hl],.inr ⟨g,cap,_,rfl,hbase,Kt _ hb,h1,h2,by simp [Go.Sort.putCells,h3],by
  rw [← hl];exact MM hk k0 cur ts (by rw [hl,h3];exact Nat.mul_le_mul_right k h1)⟩⟩
end
instance:Inhabited Actor:=⟨⟨0,0⟩⟩
instance:Inhabited Dot:=⟨⟨⟨0,0⟩,0⟩⟩
def BR (d:Dot):List Value:=[.int .i64 d.a.dev,.int .i64 d.a.inc,.int .i64 d.seq]
def rU (a:Actor):List Value:=[.int .i64 a.dev,.int .i64 a.inc]
theorem TF:Go.Sort.SWO (ltOf oh):=by
 have e:∀ x y,ltOf oh x y=dG x y:=fun x y=>BZ x y;refine ⟨fun x=>by rw [e];exact eH x,fun x y z h k=>?_,fun x y z h k=>?_⟩
 ·rw [e] at h k ⊢;exact iW h k
 ·rw [e] at h k ⊢
  cases hh:dG x z with
  | false=>rfl
  | true =>
    by_cases hxy:x=y
    ·subst hxy;rw [k] at hh;cases hh
    ·have h1:=oU hxy h
     have h2:=iW h1 hh;rw [k] at h2;cases h2
theorem Pi:Go.Sort.SWO (ltOf dS):=by
 have e:∀ x y,ltOf dS x y=bK x y:=fun x y=>wM x y;refine ⟨fun x=>by rw [e];exact iT x,fun x y z h k=>?_,fun x y z h k=>?_⟩
 ·rw [e] at h k ⊢;exact jf h k
 ·rw [e] at h k ⊢
  cases hh:bK x z with
  | false=>rfl
  | true =>
    by_cases hxy:x=y
    ·subst hxy;rw [k] at hh;cases hh
    ·have h1:=lK hxy h
     have h2:=jf h1 hh;rw [k] at h2;cases h2
theorem KN (blk off size:Nat) (w:World):CmpLays prog 155 #[] BR 3 oh blk off size w :=
 fun _ _ _ _ x y=>(Ju x y _).mono fun _ _ ⟨he,hu⟩=>⟨he,hu.grown⟩
theorem z100 {p : Prop} (h : p := by
 rintro e w' ⟨rfl, rfl⟩
 exact ⟨rfl, [], List.Perm.refl _, fun i j _ _ h => by simp at h, hown, Fr.refl _ _⟩) : p := h
theorem z82 {p : Prop} (h : p := by
 have := p3
 rwa [show d'.extract 0 ks.length = d' by rw [← hsz]; simp, show ks.toArray.extract 0 ks.length = ks.toArray by simp] at this) : p := h
theorem y52 {p q : Prop} (k : q) (h : PLift q → p := by
 intro kk
 have hd : d' = d'.toList.toArray := by simp
 have hsz : d'.size = ks.length := by simpa using p1
 have hperm : d'.toList.Perm ks := by
  exact z82
 revert hd hsz hperm
 exact kk.down) : p := h ⟨k⟩
theorem Pm (base:Nat) (v:Value) (ks:List Dot) (w:World) (hown:w.ownsRow base 121 3 v ks.length (aY ks)) (hl:ks.length≤1073741824) :
 Calls prog 180 #[v,.func (.func 155) #[] #[]] w fun e w'=>e=.returned (.tuple #[])∧∃ ts:List Dot,ts.Perm ks∧Go.Sort.SortedIn dG 0 ts.toArray.size ts.toArray∧w'.ownsRow base 121 3 v ks.length (aY ts)∧Fr (fun k=>v.ownBlock=some k) w w':=by
 rcases hown.2 with ⟨rfl,hz⟩ | ⟨g,cap,cur,rfl,hbase,hgb,r1,r2,r3,r4⟩
 ·obtain rfl:ks=[]:=List.eq_nil_of_length_eq_zero hz
  refine (AnyF.slices_SortFunc_none Tryz.sortDot none 0 _ w).mono ?_
  exact z100
 ·have hH:Go.Sort.HoldsK BR 3 w g 0 ks.toArray:=uI (k:=3) (fun _=>rfl) (by decide) hgb r4
  have hgl:g<w.heap.size:=(Array.getElem?_eq_some_iff.1 hgb).1;have hc:=AnyQ.slices_SortFunc Tryz.sortDot 3 Tryz.isAgg121 Tryz.sizeOf121 BR (fun _=>rfl) (fun x v hv=>by simp [BR] at hv;rcases hv with rfl | rfl | rfl <;> rfl) oh TF 155 #[] g 0 cap ks.toArray w (enters_of func155 (by kernel_rfl) rfl) (KN g 0 _ w) hH hgl (by simp;omega);rw [List.size_toArray] at hc;refine hc.mono ?_;rintro e w' ⟨rfl,d',n,os,⟨p1,p2,p3⟩,hs,rfl⟩
  refine y52 ?_
  intro hd hsz hperm
  refine ⟨rfl,d'.toList,hperm,?_,?_,?_⟩
  ·have e:ltOf oh=dG:=by funext x y;exact BZ x y
   rw [e] at hs;simpa [hsz] using hs
  ·have h9:=o5 (enc:=BR) (k:=3) (ts:=d'.toList) (ss:=ks) (n:=n) (os:=os) (fun _=>rfl) (by decide) (by simpa using hsz) hbase hgb r1 r2 r3
   rw [← hd] at h9;exact h9
  ·exact (BD d').mono fun k _ hk=>by subst hk;rfl
theorem FT (blk off size:Nat) (w:World):CmpLays prog 184 #[] rU 2 dS blk off size w :=
 fun _ _ _ _ x y=>(EK x y _).mono fun _ _ ⟨he,hu⟩=>⟨he,hu.grown⟩
theorem Jt (base:Nat) (v:Value) (ks:List Actor) (w:World) (hown:w.ownsRow base 119 2 v ks.length (iK ks)) (hl:ks.length≤1073741824) :
 Calls prog 221 #[v,.func (.func 184) #[] #[]] w fun e w'=>e=.returned (.tuple #[])∧∃ ts:List Actor,ts.Perm ks∧Go.Sort.SortedIn bK 0 ts.toArray.size ts.toArray∧w'.ownsRow base 119 2 v ks.length (iK ts)∧Fr (fun k=>v.ownBlock=some k) w w':=by
 rcases hown.2 with ⟨rfl,hz⟩ | ⟨g,cap,cur,rfl,hbase,hgb,r1,r2,r3,r4⟩
 ·obtain rfl:ks=[]:=List.eq_nil_of_length_eq_zero hz
  refine (AnyF.slices_SortFunc_none Tryz.sortActor none 0 _ w).mono ?_
  exact z100
 ·have hH:Go.Sort.HoldsK rU 2 w g 0 ks.toArray:=uI (k:=2) (fun _=>rfl) (by decide) hgb r4
  have hgl:g<w.heap.size:=(Array.getElem?_eq_some_iff.1 hgb).1;have hc:=AnyQ.slices_SortFunc Tryz.sortActor 2 Tryz.isAgg119 Tryz.sizeOf119 rU (fun _=>rfl) (fun x v hv=>by simp [rU] at hv;rcases hv with rfl | rfl <;> rfl) dS Pi 184 #[] g 0 cap ks.toArray w (enters_of func184 (by kernel_rfl) rfl) (FT g 0 _ w) hH hgl (by simp;omega);rw [List.size_toArray] at hc;refine hc.mono ?_;rintro e w' ⟨rfl,d',n,os,⟨p1,p2,p3⟩,hs,rfl⟩
  refine y52 ?_
  intro hd hsz hperm
  refine ⟨rfl,d'.toList,hperm,?_,?_,?_⟩
  ·have e:ltOf dS=bK:=by funext x y;exact wM x y
   rw [e] at hs;simpa [hsz] using hs
  ·have h9:=o5 (enc:=rU) (k:=2) (ts:=d'.toList) (ss:=ks) (n:=n) (os:=os) (fun _=>rfl) (by decide) (by simpa using hsz) hbase hgb r1 r2 r3
   rw [← hd] at h9;exact h9
  ·exact (BD d').mono fun k _ hk=>by subst hk;rfl
theorem G7 (mb:Option Nat) (w:World):Calls prog 154 #[.map mb] w fun e w'=>e=.returned (.func (.func 181) #[] #[.pointer (some ⟨w.heap.size,0,none⟩)])∧w'=w.alloc (.cells #[.map mb] 95):=by
 go_enter func154,ntmps154
 exact z137
theorem z144 {p : Prop} (h : p := by
 rw [HP.out.2]
 constructor
 ·intro h; subst h; exact List.Perm.eq_nil hts
 ·intro h; subst h; exact (List.Perm.eq_nil hts.symm)) : p := h
theorem CO {β:Type} {vv:β→Value} (Bm b:Nat) (m:List (Dot×β)) (w:World) (hBm:Bm<w.heap.size) (hm:w.cell? ⟨Bm,0,none⟩=some (.map (some b))) (htab:Tab prog 121 bZ DotW vv w b m) (hN:m.length≤1073741824) :
 Calls prog 153 #[.func (.func 181) #[] #[.pointer (some ⟨Bm,0,none⟩)],.func (.func 155) #[] #[]] w fun e w'=>∃ (v:Value) (ts:List Dot),e=.returned v∧ts.Perm (m.map (·.1)) ∧
  (ts.Pairwise fun x y=>dG x y=true)∧w'.ownsRow w.heap.size 121 3 v ts.length (aY ts)∧(v=.slice none 0 0↔ts=[])∧Below w.heap.size w w':=by
 have hnd:(m.map (·.1)).Nodup:=by
  have:=htab.apart;exact List.pairwise_map.2 this
 have HAP:=Lib.hid (callsIn_wide.1 (OQ 4 (by omega) Bm b m w hBm hm htab hN));have HC:Hid (Calls prog 179 #[.func (.func 181) #[] #[.pointer (some ⟨Bm,0,none⟩)]] w fun e w'=>∃ (v:Value) (ks:List Dot),e=.returned v∧ks.Perm (m.map (·.1)) ∧
  w'.ownsRow w.heap.size 121 3 v ks.length (aY ks)∧(v=.slice none 0 0↔ks=[])∧Below w.heap.size w w'):=by
  clear hm htab;go_enter func179,ntmps179;go_wp2_with (go_at_call 218;(with_reducible refine HAP.out.mono ?_);rintro e w1 ⟨v,ks,rfl,h1,h2,h3,h4⟩)
  go_ret;exact ⟨v,ks,rfl,h1,h2,h3,h4⟩
 have HND:=Lib.hid hnd;have HN:=Lib.hid hN;clear hm htab hnd hN HAP;go_enter func153,ntmps153;go_upto_region 2 with (go_at_call 179;(with_reducible refine HC.out.mono ?_);rintro e w1 ⟨v,ks,rfl,hp,hown,hnil,hb⟩)
 have hlen:ks.length≤1073741824:=by rw [hp.length_eq,List.length_map];exact HN.out
 have HS:=Lib.hid (Pm w.heap.size v ks w1 hown hlen);have HP:=Lib.hid (And.intro hp hnil);have HO:=Lib.hid hown;clear hp hnil hown hlen;go_wp2_with (go_at_call 180;(with_reducible refine HS.out.mono ?_);rintro e w2 ⟨rfl,ts,hts,hsrt,hown2,hf2⟩)
 go_ret;have hpm:=hts.trans HP.out.1;refine ⟨v,ts,rfl,hpm,?_,by rw [hts.length_eq];exact hown2,?_,hb.trans (hf2.below hb.size (fun k hk=>(HO.out.lt k hk).1))⟩
 ·have h5:=oZ (lt:=dG) (fun x y h k=>oU h k) (d:=ts.toArray) hsrt (by
   simp only [];exact (hpm.nodup_iff).2 HND.out)
  simpa using h5
 ·exact z144
theorem Dc (mb:Option Nat) (w:World):Calls prog 183 #[.map mb] w fun e w'=>e=.returned (.func (.func 222) #[] #[.pointer (some ⟨w.heap.size,0,none⟩)])∧w'=w.alloc (.cells #[.map mb] 163):=by
 go_enter func183,ntmps183
 exact z137
theorem yX {β:Type} {vv:β→Value} (Bm b:Nat) (m:List (Actor×β)) (w:World) (hBm:Bm<w.heap.size) (hm:w.cell? ⟨Bm,0,none⟩=some (.map (some b))) (htab:Tab prog 119 fO ActW vv w b m) (hN:m.length≤1073741824) :
 Calls prog 182 #[.func (.func 222) #[] #[.pointer (some ⟨Bm,0,none⟩)],.func (.func 184) #[] #[]] w fun e w'=>∃ (v:Value) (ts:List Actor),e=.returned v∧ts.Perm (m.map (·.1)) ∧
  (ts.Pairwise fun x y=>bK x y=true)∧w'.ownsRow w.heap.size 119 2 v ts.length (iK ts)∧(v=.slice none 0 0↔ts=[])∧Below w.heap.size w w':=by
 have hnd:(m.map (·.1)).Nodup:=by
  have:=htab.apart;exact List.pairwise_map.2 this
 have HAP:=Lib.hid (callsIn_wide.1 (IW 4 (by omega) Bm b m w hBm hm htab hN));have HC:Hid (Calls prog 220 #[.func (.func 222) #[] #[.pointer (some ⟨Bm,0,none⟩)]] w fun e w'=>∃ (v:Value) (ks:List Actor),e=.returned v∧ks.Perm (m.map (·.1)) ∧
  w'.ownsRow w.heap.size 119 2 v ks.length (iK ks)∧(v=.slice none 0 0↔ks=[])∧Below w.heap.size w w'):=by
  clear hm htab;go_enter func220,ntmps220;go_wp2_with (go_at_call 252;(with_reducible refine HAP.out.mono ?_);rintro e w1 ⟨v,ks,rfl,h1,h2,h3,h4⟩)
  go_ret;exact ⟨v,ks,rfl,h1,h2,h3,h4⟩
 have HND:=Lib.hid hnd;have HN:=Lib.hid hN;clear hm htab hnd hN HAP;go_enter func182,ntmps182;go_upto_region 2 with (go_at_call 220;(with_reducible refine HC.out.mono ?_);rintro e w1 ⟨v,ks,rfl,hp,hown,hnil,hb⟩)
 have hlen:ks.length≤1073741824:=by rw [hp.length_eq,List.length_map];exact HN.out
 have HS:=Lib.hid (Jt w.heap.size v ks w1 hown hlen);have HP:=Lib.hid (And.intro hp hnil);have HO:=Lib.hid hown;clear hp hnil hown hlen;go_wp2_with (go_at_call 221;(with_reducible refine HS.out.mono ?_);rintro e w2 ⟨rfl,ts,hts,hsrt,hown2,hf2⟩)
 go_ret;have hpm:=hts.trans HP.out.1;refine ⟨v,ts,rfl,hpm,?_,by rw [hts.length_eq];exact hown2,?_,hb.trans (hf2.below hb.size (fun k hk=>(HO.out.lt k hk).1))⟩
 ·have h5:=oZ (lt:=bK) (fun x y h k=>lK h k) (d:=ts.toArray) hsrt (by
   simp only [];exact (hpm.nodup_iff).2 HND.out)
  simpa using h5
 ·exact z144
theorem DotsIn.at {w:World} {a:Option Addr} {l:List Dot} (h:DotsIn w a l) {k:Nat} (hk:k<l.length) :
 ∃ A off,a=some ⟨A,off,none⟩∧w.cell? ⟨A,off+k * 3,none⟩=some (.int .i64 l[k].a.dev)∧w.cell? ⟨A,off+k * 3+1,none⟩=some (.int .i64 l[k].a.inc)∧w.cell? ⟨A,off+k * 3+2,none⟩=some (.int .i64 l[k].seq):=by
 rcases h with rfl | ⟨A,off,h1,h2⟩
 ·simp at hk
 ·exact ⟨A,off,h1,h2.dev k hk,h2.inc k hk,h2.seq k hk⟩
/-- a count goes up -/
theorem Tab.count {w:World} {b:Nat} {m:List (Dot×Int)} (h:Tab prog 121 bZ DotW jQ w b m) (hl:m.length+1<maxLen) {d:Dot} (hd:DotW d) :
 ∃ (n:Int) (st:Nat) (w1 w2:World) (m':List (Dot×Int)),(Instr.lookup 95 (.map (some b)) (bZ d) false).run prog w=.ok (.int .i64 n) w ∧
   (Instr.lookup 95 (.map (some b)) (bZ d) false).run prog w1=.ok (.int .i64 n) w1 ∧
   (∃ v0,(Instr.mapEntry 95 (.map (some b)) (bZ d)).run prog w=.ok (.tuple #[v0,.int .i64 (st:Int)]) w1)∧Fr (isR b) w w1 ∧
   (Instr.entryStore 95 (.map (some b)) (.int .i64 (st:Int)) (.int .i64 (IntKind.i64.wrap (n+1)))).run prog w1=.ok () w2∧Fr (isR b) w w2 ∧
   Tab prog 121 bZ DotW jQ w2 b m'∧(∀ x,x∈m'.map (·.1)↔x=d∨x∈m.map (·.1))∧m'.length≤m.length+1:=by
 have hz:∀ u:World,(zeroValue 3).run prog u=.ok (.int .i64 0) u:=fun u=>by kernel_rfl
 have hkey:=jm.lit hd;have hown:=h;obtain ⟨D,hD,hTD⟩:=hown;by_cases hm:∃ c,(d,c)∈m
 ·obtain ⟨c,hc⟩:=hm
  obtain ⟨r,hr⟩:=lm hc;have hlr:=hr.length_eq;have hlook:=h.look_hit jm underlying95 (hz w) hc false;obtain ⟨w2,hrun2,Bj,hf2⟩:=(h.perm hr).store_old jm underlying95 (by simp at hlr;omega) (IntKind.i64.wrap (c+1));rcases Aq jm.law hD underlying95 hz hkey with ⟨v0,st,he,hs⟩ | ⟨st,w1,he,hu,hno,hs⟩
  ·refine ⟨c,st,w,w2,_,hlook,hlook,⟨v0,he⟩,Fr.refl _ _,hs _ _ hrun2,hf2,Bj,fun x=>?_,by simp at hlr ⊢;omega⟩
   rw [(hr.map (·.1)).mem_iff];simp
  ·exfalso
   have hst:(Instr.lookup 95 (.map (some b)) (bZ d) true).run prog w=.ok (.tuple #[.int .i64 c,.bool true]) w:=h.look_hit jm underlying95 (hz w) hc true;rw [hno] at hst;simp at hst
 ·have hn:∀ p∈m,p.1≠d:=fun p hp e=>hm ⟨p.2,by rw [← e];exact hp⟩
  have hlook:=h.look_miss jm underlying95 (hz w) hd hn false;obtain ⟨w2,hrun2,Bj,hf2⟩:=h.store_new jm underlying95 (by omega) hd hn (IntKind.i64.wrap (0+1));rcases Aq jm.law hD underlying95 hz hkey with ⟨v0,st,he,hs⟩ | ⟨st,w1,he,hu,hno,hs⟩
  ·refine ⟨0,st,w,w2,_,hlook,hlook,⟨v0,he⟩,Fr.refl _ _,hs _ _ hrun2,hf2,Bj,fun x=>?_,by simp⟩
   simp
  ·obtain ⟨w3,hrun3,LP,hf3⟩:=h.store_new jm underlying95 (by omega) hd hn 0
   obtain rfl:w1=w3:=by
        have:=hu.symm.trans hrun3
        cases this;rfl
   exact ⟨0,st,w1,w2,_,hlook,LP.look_hit jm underlying95 (hz w1) (p:=(d,0)) List.mem_cons_self false,⟨_,he⟩,hf3,hs _ _ hrun2,hf2,Bj,fun x=>by simp,by simp⟩
theorem z40 {p : Prop} (h : p := by (rintro w ⟨s0, s1, s2, s3⟩; go_simp; try with_reducible rfl)) : p := h
theorem y40 {p q : Prop} (k : q) (h : PLift q → p := by
 intro kk
 have x0 : W.drew.cell? ⟨wr.heap.size, 0, none⟩ = some (.int .i64 d.a.dev) := by rw [hW.out]; go_simp
 have x1 : W.drew.cell? ⟨wr.heap.size, 1, none⟩ = some (.int .i64 d.a.inc) := by rw [hW.out]; go_simp
 have x2 : W.drew.cell? ⟨wr.heap.size, 2, none⟩ = some (.int .i64 d.seq) := by rw [hW.out]; go_simp
 revert x0 x1 x2
 exact kk.down) : p := h ⟨k⟩
theorem y65 {p q : Prop} (k : q) (h : PLift q → p := by
 intro kk
 try simp only [pS]
 refine F9 (by kernel_rfl) ?_ _
 refine NoPanic.normal ?_
 exact kk.down) : p := h ⟨k⟩
theorem y9 {p q : Prop} (k : q) (h : PLift q → p := by
 intro kk
 intro K hK
 go_simp
 refine hK.out _ _ (Or.inl (by kernel_rfl)) ?_
 clear hK K
 refine y65 ?_
 exact kk.down) : p := h ⟨k⟩
theorem yF (a:Option Addr) (cap:Nat) (l:List Dot) (w:World) (hl:l.length≤1073741824) (hok:∀ d∈l,DotW d) (hin:DotsIn w a l) :
 Calls prog 118 #[.slice a l.length cap] w fun e w'=>∃ v,e=.returned v∧w'.ownsRow w.heap.size 121 3 v (sortD l).length (aY (sortD l))∧(v=.slice none 0 0↔sortD l=[])∧Below w.heap.size w w':=by
 have hmm:=@run_makeMap prog;have HO:=Lib.hid hok;go_enter func118,ntmps118;go_wp2;go_loopw [9] (fun i wr=>∃ (k:Nat) (m:List (Dot×Int)),i=.int .i64 k∧k≤l.length∧Tab prog 121 bZ DotW jQ wr w.heap.size m∧(∀ x,x∈m.map (·.1)↔x∈l.take k)∧m.length≤k∧Below w.heap.size w wr) (fun i _=>l.length - (intOf i).toNat)
 case atStart=>exact ⟨0,[],rfl,Nat.zero_le _,Tab.made w,by simp,Nat.le_refl _,by go_grown⟩
 case round =>
  obtain ⟨k,m,rfl,hk,htab,hmem,hml,hbw⟩:=hrel;have HM:=Lib.hid hmem;clear hmem;by_cases hlt:k<l.length
  ·obtain ⟨A,off,rfl,e0,e1,e2⟩:=(hin.kept hbw).at hlt
   have hdw:=hok _ (List.getElem_mem hlt);have HT:Hid (∀ x,x∈l.take (k+1)↔x=l[k]∨x∈l.take k):=fun x=>by
        rw [List.take_add_one,List.getElem?_eq_getElem hlt];show x∈l.take k++[l[k]]↔_;rw [List.mem_append,List.mem_singleton];exact Or.comm
   have hzw:=hbw.size;generalize l[k]=d at e0 e1 e2 hdw HT;go_upto_region 5 with fail
   refine au (fun W hW=>?_);have hb1:Below wr.heap.size wr W:=by rw [hW.out];go_grown
   refine y40 ?_
   intro x0 x1 x2
   clear hW e0 e1 e2
   have hbd:Below w.heap.size w W.drew:=hbw.trans (hb1.drew.mono hzw);have htw:Tab prog 121 bZ DotW jQ W.drew w.heap.size m:=(htab.kept hb1.drew);have hne:wr.heap.size≠w.heap.size:=by have:=htab.lt;omega
   obtain ⟨n,st,w1,w2,m',hl0,hl1,⟨v0,he⟩,hf1,hs,hf2,Bj,hm2,Vu⟩:=htw.count (by unfold maxLen;omega) hdw;have HR:=Lib.hid (And.intro Bj (And.intro hm2 Vu));have y0:w1.cell? ⟨wr.heap.size,0,none⟩=some (.int .i64 d.a.dev):=hf1.kept x0 hne;have y1:w1.cell? ⟨wr.heap.size,1,none⟩=some (.int .i64 d.a.inc):=hf1.kept x1 hne;have y2:w1.cell? ⟨wr.heap.size,2,none⟩=some (.int .i64 d.seq):=hf1.kept x2 hne;have HF:=Lib.hid (And.intro hf1 hf2);have hS:=And.intro x0 (And.intro x1 (And.intro x2 hl0));have hS1:=And.intro y0 (And.intro y1 (And.intro y2 hl1));clear Bj hm2 Vu htw htab hf1 hf2 x0 x1 x2 y0 y1 y2 hl0 hl1 hb1;refine wp_region_noPanic ?_;refine dD (fun W'=>W'.cell? ⟨wr.heap.size,0,none⟩=some (.int .i64 d.a.dev)∧W'.cell? ⟨wr.heap.size,1,none⟩=some (.int .i64 d.a.inc)∧W'.cell? ⟨wr.heap.size,2,none⟩=some (.int .i64 d.seq)∧(Instr.lookup 95 (.map (some w.heap.size)) (bZ d) false).run prog W'=.ok (.int .i64 n) W') [6] (by kernel_rfl) ?_;refine ai (i:=0) (oi:=⟨some 13,_,_,_,_,_⟩) (v:=?_) rfl (by kernel_rfl) (by kernel_rfl) (by kernel_rfl) (by kernel_rfl) (by kernel_rfl) (fun _ _ _ h=>h) (Or.inl ⟨by rfl,?_⟩) (by assumption) ?_
   case refine_2 => exact z40
   try simp only [pS]
   refine ai (i:=1) (oi:=⟨some 14,_,_,_,_,_⟩) (v:=?_) rfl (by kernel_rfl) (by kernel_rfl) (by kernel_rfl) (by kernel_rfl) (by kernel_rfl) (fun _ _ _ h=>h) (Or.inl ⟨by rfl,?_⟩) (by assumption) ?_
   case refine_2 => exact z40
   try simp only [pS]
   refine ai (i:=2) (oi:=⟨some 15,_,_,_,_,_⟩) (v:=?_) rfl (by kernel_rfl) (by kernel_rfl) (by kernel_rfl) (by kernel_rfl) (by kernel_rfl) (fun _ _ _ h=>h) (Or.inl ⟨by rfl,?_⟩) (by assumption) ?_
   case refine_2 => exact z40
   try simp only [pS]
   refine ai (i:=3) (oi:=⟨some 16,_,_,_,_,_⟩) (v:=?_) rfl (by kernel_rfl) (by kernel_rfl) (by kernel_rfl) (by kernel_rfl) (by kernel_rfl) (fun _ _ _ h=>h) (Or.inl ⟨by rfl,?_⟩) (by assumption) ?_
   case refine_2 => exact z40
   try simp only [pS]
   refine cZ (i:=4) (o:=⟨some 17,_,_,_,_,_⟩) (by kernel_rfl) rfl ?_;intro K hK;go_simp;refine hK.out _ _ (Or.inr (hS1)) ?_;clear hK K;try simp only [pS]
   refine cZ (i:=5) (o:=⟨some 18,_,_,_,_,_⟩) (by kernel_rfl) rfl ?_;intro K hK;go_simp;refine hK.out _ _ (Or.inr (hS1)) ?_;clear hK K;try simp only [pS]
   refine cZ (i:=6) (o:=⟨none,_,_,_,_,_⟩) (by kernel_rfl) rfl ?_
   refine y9 ?_
   have HK:=Lib.hid hlt;clear hS hS1 he hs;go_wp2;go_roundw
   case rel=>exact ⟨k+1,m',by go_num,HK.out,HR.out.1,fun x=>by rw [HR.out.2.1,HT.out,HM.out],by have:=HR.out.2.2;omega,hbd.trans (HF.out.2.below hbd.size (fun j hj=>by subst hj;exact Nat.le_refl _))⟩
   case measure=>have:=HK.out;simp [intOf] <;> omega
  ·obtain rfl:k=l.length:=by omega
   have hM:=HM.out;rw [List.take_length] at hM;have HMM:=Lib.hid hM;have hz:=hbw.size;have HS:=Lib.hid (CO wr.heap.size w.heap.size m (wr.alloc (.cells #[.map (some w.heap.size)] 95)) (by simp) (Boxed.new wr _ _).cell (htab.kept ((Below.refl _ _).alloc (Nat.le_refl _) _)) (by omega));have HKS:=Lib.hid (G7 (some w.heap.size) wr);clear htab hM;go_wp2_with (first
        | (go_at_call 154;(with_reducible refine HKS.out.mono ?_);rintro e w1 ⟨rfl,rfl⟩)
        | (go_at_call 153;(with_reducible refine HS.out.mono ?_);rintro e w2 ⟨v,ts,rfl,hp,hsr,hown,hnil,hb2⟩))
   go_ret;obtain rfl:ts=sortD l:=zG hsr (jC l) fun x=>by rw [hp.mem_iff,HMM.out,dm]
   exact ⟨v,rfl,jh hown (by simp;omega),hnil,hbw.trans (((Below.refl _ _).alloc (Nat.le_refl _) _).mono hz |>.trans (hb2.mono (by simp;omega)))⟩
end Go.Proofs.YtepkclldbkhanaaGreat
