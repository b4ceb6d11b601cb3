/- The map of events: kill, plainly. Conditions: as in the text. -/
import Derived.Test.YtepkclldbkhanaaGreatOrm
import Derived.Test.YtepkclldbkhanaaGreatLoad
set_option linter.unusedSimpArgs false
set_option linter.unusedVariables false
set_option linter.unnecessarySimpa false
set_option maxHeartbeats 16000000
set_option maxRecDepth 100000
open Go.Proofs.Tryz
namespace Go.Proofs.YtepkclldbkhanaaGreat
open Go.RowKit
theorem AA {l:List Dot} (h:(ones l).Pairwise fun p q=>p.1≠q.1):l.Nodup:=by
 have:=List.pairwise_map.1 h;exact this
theorem rQ {l:List Dot} {d:Dot} (hn:l.Nodup) (hd:d∈l):l.Perm (d :: l.filter fun x=>decide (x≠d)):=by
 obtain ⟨r,hr⟩:=lm hd;have h1:(d :: r).Nodup:=(hr.nodup_iff).1 hn;have h2:=(List.nodup_cons.1 h1).1;have h3:(l.filter fun x=>decide (x≠d)).Perm r:=by
  have h4:=hr.filter fun x=>decide (x≠d);rw [List.filter_cons,if_neg (by simp)] at h4;have h5:(r.filter fun x=>decide (x≠d))=r:=List.filter_eq_self.2 fun x hx=>decide_eq_true (fun e=>h2 (e▸hx));rw [h5] at h4;exact h4
 exact hr.trans (h3.symm.cons d)
theorem BI {l:List Dot} {d:Dot} (hd:d ∉ l):(l.filter fun x=>decide (x≠d))=l:=List.filter_eq_self.2 fun x hx=>by simp;intro e;exact hd (e▸hx)
/-- a set of dots, one of them struck -/
theorem DTab.drop {w:World} {b:Nat} {l:List Dot} (h:DTab w b l) {d:Dot} (hd:DotW d) (ty:TypeId) :
 ∃ w',(Builtin.delete_ #[95,121] ty #[.map (some b),bZ d]).run prog w=.ok (.tuple #[]) w'∧DTab w' b (l.filter fun x=>decide (x≠d))∧Fr (isR b) w w':=by
 by_cases hm:d∈l
 ·have hp:=(rQ (AA h.apart) hm).map fun d=>(d,(1:Int))
  exact Tab.drop_old jm (Tab.perm h hp) underlying95 ty
 ·rw [BI hm]
  exact Tab.drop_miss jm h underlying95 ty hd (fun p hp=>by obtain ⟨x,hx,rfl⟩:=List.mem_map.1 hp;exact fun e=>hm (by rw [← e];exact hx))
/-- a set of dots, with one more -/
def wR (d:Dot) (l:List Dot):List Dot:=if d∈l then l else d :: l
theorem DTab.add {w:World} {b:Nat} {l:List Dot} (h:DTab w b l) {d:Dot} (hd:DotW d) (hl:l.length≤1073741824) :
 ∃ w',(Instr.mapUpdate 95 (.map (some b)) (bZ d) (.int .i64 1)).run prog w=.ok () w'∧DTab w' b (wR d l)∧Fr (isR b) w w':=by
 unfold wR;by_cases hm:d∈l
 ·rw [if_pos hm]
  have hp:=(rQ (AA h.apart) hm);have hlen:=hp.length_eq;simp only [List.length_cons] at hlen;obtain ⟨w',h1,h2,h3⟩:=Tab.store_old jm (Tab.perm h (hp.map fun d=>(d,(1:Int)))) underlying95 (by rw [List.length_map];unfold maxLen;omega) 1;exact ⟨w',h1,Tab.perm h2 (hp.map fun d=>(d,(1:Int))).symm,h3⟩
 ·rw [if_neg hm]
  exact Tab.store_new jm h underlying95 (by unfold ones maxLen;rw [List.length_map];omega) hd (fun p hp=>by obtain ⟨x,hx,rfl⟩:=List.mem_map.1 hp;exact fun e=>hm (by rw [← e];exact hx)) 1
theorem MpIn.setDead {w w':World} {m:Nat} {b:MB} {s:MS} {l:List Dot} (h:MpIn w m b s) (ht:DTab w' b.db l) (hf:Fr (isR b.db) w w'):MpIn w' m b { s with dead:=l }:=by
 obtain ⟨n1,n2,n3,n4,n5,n6,n7,n8⟩:=qi h.nodup;have hK:=h.keeps hf (fun i hi=>by subst hi;exact oN b _);exact ⟨hK _ _ _ _ h.cell,⟨hK _ _ _ _ h.vec.cell,h.vec.tab.fr hf (Ne.symm n6)⟩,h.kept.fr hf n2,fun x hx=>hK.dots (h.overs x hx),ht,h.alive.fr hf n4,fun p hp=>(h.inner p hp).fr hf (n7 p hp).2.2.1.symm,h.some,h.keys,h.nodup⟩
/-- the alive dots without one -/
def strike (pairs:List (Key×Dot)) (d:Dot):List (Key×Dot):=pairs.filter fun q=>decide (q.2≠d)
theorem kw {pairs:List (Key×Dot)} {k:Key} {d:Dot}:d∈atK pairs k↔(k,d)∈pairs:=by
 unfold atK;simp only [List.mem_map,List.mem_filter,decide_eq_true_eq];constructor
 ·rintro ⟨q,⟨h1,h2⟩,h3⟩
  obtain ⟨a,b⟩:=q;simp only at h2 h3;subst h2 h3;exact h1
 ·intro h
  exact ⟨(k,d),⟨h,rfl⟩,rfl⟩
theorem Jg (w:World):(zeroValue 127).run prog w=.ok (jY ev0 none 0) w:=by kernel_rfl
/-- what a look-up among the kept events gives -/
theorem KTab.look {w:World} {b:Nat} {K:List bH} (h:KTab w b K) {d:Dot} (hd:DotW d) :
 (∃ x∈K,x.1.dot=d∧∀ X:World,KTab X b K→(Instr.lookup 93 (.map (some b)) (bZ d) true).run prog X=.ok (.tuple #[evV x,.bool true]) X) ∨
 ((∀ x∈K,x.1.dot≠d)∧∀ X:World,KTab X b K→(Instr.lookup 93 (.map (some b)) (bZ d) true).run prog X=.ok (.tuple #[evV (ev0,none,0),.bool false]) X):=by
 by_cases hm:∃ x∈K,x.1.dot=d
 ·obtain ⟨x,hx,hxd⟩:=hm
  refine Or.inl ⟨x,hx,hxd,fun X hX=>?_⟩;subst hxd;exact hX.look_hit jm underlying93 (Jg X) (p:=(x.1.dot,x)) (List.mem_map.2 ⟨x,hx,rfl⟩) true
 ·refine Or.inr ⟨fun x hx e=>hm ⟨x,hx,e⟩,fun X hX=>?_⟩
  exact hX.look_miss jm underlying93 (Jg X) hd (fun p hp=>by obtain ⟨x,hx,rfl⟩:=List.mem_map.1 hp;exact fun e=>hm ⟨x,hx,e⟩) true
def pI (s:MS) (e:Ev):Bool:=eF e && (!iJ s.ctx e.dot && (decide (jl s.ctx e.dot.a+1=e.dot.seq) && decide (s.K.length<2048)))
def Cj (s:MS) (e:Ev):Int:=if eF e=true then (if iJ s.ctx e.dot=true then 0 else if jl s.ctx e.dot.a+1=e.dot.seq then (if s.K.length<2048 then 0 else 9) else 6) else 1
/-- the alive dots as soon as an event is kept -/
def JQ (s:MS) (e:Ev):List (Key×Dot):=if e.kind=1∧e.dot ∉ s.dead then (e.key,e.dot) :: s.pairs else s.pairs
structure Applied (s:MS) (e:Ev) (s':MS):Prop where
 ctx:s'.ctx=setM s.ctx e.dot.a e.dot.seq
 kept:∃ a c,s'.K.Perm ((e,a,c) :: s.K)
 dead:s'.dead=e.over.foldl (fun l d=>wR d l) s.dead
 pairs:s'.pairs=e.over.foldl strike (JQ s e)
/-- what holds of every map -/
structure MInv (s:MS):Prop where
 ctx:qP s.ctx
 ctxOk:∀ d∈s.ctx,bJ d=true
 kept:∀ x∈s.K,eF x.1=true∧iJ s.ctx x.1.dot=true
 pairs:∀ k d,(k,d)∈s.pairs↔∃ x∈s.K,x.1.kind=1∧x.1.dot=d∧x.1.key=k∧d ∉ s.dead
 pnd:s.pairs.Nodup
 dead:∀ d∈s.dead,bJ d=true
 len:s.K.length≤2048
/-- an event's dots lie in a block of dots -/
def TypD (w:World) (e:Ev) (a:Option Addr):Prop:=e.over=[]∨∃ A off cs f,a=some ⟨A,off,none⟩∧w.heap[A]?=some (.cells cs 121 f)
theorem TypD.kept {w w':World} {e:Ev} {a:Option Addr} (h:TypD w e a) (hb:Below w.heap.size w w'):TypD w' e a:=h.imp id fun ⟨A,off,cs,f,h1,h2⟩=>⟨A,off,cs,f,h1,(hb.block A (lt_of_block h2)).trans h2⟩
def RetAp (m:Nat) (b:MB) (s:MS) (e:Ev) (w:World) (x:Ending) (w':World):Prop :=
 ∃ s',x=.returned (.tuple #[.bool (pI s e),.int .i64 (Cj s e)])∧MpIn w' m b s'∧Fr (foot b s.A) w w'∧(∀ k,foot b s'.A k→foot b s.A k∨w.heap.size≤k)∧(if pI s e=true then Applied s e s' else s'=s)
theorem GM {d:Dot}:∀ {l:List Dot} {p:Option Dot},df d p l=true→∀ x∈l,bJ x=true
 | [],_,_,x,hx=>by simp at hx
 | y :: l,p,h,x,hx=>by
   unfold df at h;rw [Bool.and_eq_true] at h;rcases List.mem_cons.1 hx with rfl | hx
   ·have:=h.1
    unfold kS at this;rw [Bool.and_eq_true] at this;exact this.1
   ·exact GM h.2 x hx
theorem fE {e:Ev} (h:eF e=true):bJ e.dot=true∧(∀ d∈e.over,bJ d=true)∧e.over.length≤64∧KeyW e.key∧(e.kind=1∨e.kind=2):=by
 unfold eF at h;simp only [Bool.and_eq_true,decide_eq_true_eq] at h;obtain ⟨h1,_,_,h4,h5⟩:=h;unfold overOk at h4;simp only [Bool.and_eq_true,decide_eq_true_eq] at h4;refine ⟨h1,GM h4.2,h4.1,?_⟩;unfold kindOk at h5;by_cases hk2:e.kind=2
 ·rw [if_pos hk2] at h5
  simp only [Bool.and_eq_true,decide_eq_true_eq] at h5;obtain ⟨⟨h6,_⟩,_⟩:=h5;rw [h6];exact ⟨⟨Nat.zero_le _,Nat.zero_le _,Nat.zero_le _⟩,Or.inr hk2⟩
 ·rw [if_neg hk2] at h5
  by_cases hk1:e.kind=1
  ·rw [if_pos hk1] at h5
   unfold gQ lq fH gJ at h5;simp only [Bool.and_eq_true,decide_eq_true_eq,aH] at h5;obtain ⟨_,⟨hn,_⟩,⟨hv,_⟩,⟨hd,_⟩,⟨_,_,hp⟩,_⟩:=h5;exact ⟨⟨by unfold maxLen;omega,by unfold maxLen;omega,by unfold maxLen;omega⟩,Or.inl hk1⟩
  ·rw [if_neg hk1] at h5
   cases h5
theorem pO {α:Type}:∀ {l m:List α},l.Nodup→(∀ x∈l,x∈m)→l.length≤m.length
 | [],_,_,_=>Nat.zero_le _
 | x :: l,m,hn,hs=>by
   obtain ⟨h1,h2⟩:=List.nodup_cons.1 hn;obtain ⟨r,hr⟩:=lm (hs x List.mem_cons_self);have h3:∀ y∈l,y∈r:=fun y hy=>by
     rcases List.mem_cons.1 (hr.mem_iff.1 (hs y (List.mem_cons_of_mem _ hy))) with rfl | h
     ·exact absurd hy h1
     ·exact h
   have h4:=pO h2 h3;have h5:=hr.length_eq;simp only [List.length_cons] at h5 ⊢;omega
theorem MInv.bounds {w:World} {m:Nat} {b:MB} {s:MS} (hi:MInv s) (h:MpIn w m b s):s.A.length≤2048∧∀ k,(atK s.pairs k).length≤2048:=by
 have hp:s.pairs.length≤2048:=by
  have h1:(s.pairs.map (·.2)).Nodup:=by
   rw [List.Nodup,List.pairwise_map];refine hi.pnd.imp_of_mem fun {x y} hx hy hne e=>hne ?_;obtain ⟨z,hz,_,hz2,hz3,_⟩:=(hi.pairs x.1 x.2).1 hx;obtain ⟨z',hz',_,hz2',WH,_⟩:=(hi.pairs y.1 y.2).1 hy;have:z=z':=by
        have hap:=List.pairwise_map.1 h.kept.apart;obtain ⟨i,hi2,rfl⟩:=List.getElem_of_mem hz;obtain ⟨j,hj2,rfl⟩:=List.getElem_of_mem hz';have hh:=List.pairwise_iff_getElem.1 hap;have e1:s.K[i].1.dot=s.K[j].1.dot:=by rw [hz2,hz2',e]
        rcases Nat.lt_trichotomy i j with hij | hij | hij
        ·exact absurd e1 (hh i j hi2 hj2 hij)
        ·subst hij;rfl
        ·exact absurd e1.symm (hh j i hj2 hi2 hij)
   subst this;exact Prod.ext (by rw [← hz3,← WH]) e
  have h2:=pO h1 (m:=s.K.map (·.1.dot)) fun d hd=>by
   obtain ⟨q,hq,rfl⟩:=List.mem_map.1 hd;obtain ⟨z,hz,_,hz2,_⟩:=(hi.pairs q.1 q.2).1 hq;exact List.mem_map.2 ⟨z,hz,hz2⟩
  rw [List.length_map,List.length_map] at h2;exact Nat.le_trans h2 hi.len
 refine ⟨?_,fun k=>?_⟩
 ·have h1:(s.A.map (·.1)).Nodup:=List.pairwise_map.2 h.alive.apart
  have h2:=pO h1 (m:=s.pairs.map (·.1)) fun k hk=>by
   obtain ⟨p,hp,rfl⟩:=List.mem_map.1 hk;obtain ⟨d,hd⟩:=List.exists_mem_of_ne_nil _ (h.some p hp);exact List.mem_map.2 ⟨(p.1,d),kw.1 hd,rfl⟩
  rw [List.length_map,List.length_map] at h2;omega
 ·unfold atK
  rw [List.length_map];exact Nat.le_trans (List.length_filter_le _ _) hp
theorem MpIn.setKept {w w':World} {m:Nat} {b:MB} {s:MS} {K:List bH} (h:MpIn w m b s) (ht:KTab w' b.kb K) (ho:∀ x∈K,DotsIn w' x.2.1 x.1.over) (hf:Fr (isR b.kb) w w'):MpIn w' m b { s with K:=K }:=by
 obtain ⟨n1,n2,n3,n4,n5,n6,n7,n8⟩:=qi h.nodup;have hK:=h.keeps hf (fun i hi=>by subst hi;exact mM b _);exact ⟨hK _ _ _ _ h.cell,⟨hK _ _ _ _ h.vec.cell,h.vec.tab.fr hf (Ne.symm n3)⟩,ht,ho,h.dead.fr hf (Ne.symm n2),h.alive.fr hf (Ne.symm n1),fun p hp=>(h.inner p hp).fr hf (n7 p hp).1.symm,h.some,h.keys,h.nodup⟩
theorem oO:∀ (l dead:List Dot),(l.foldl (fun l d=>wR d l) dead).length≤dead.length+l.length
 | [],dead=>by simp
 | d :: l,dead=>by
   have h1:=oO l (wR d dead);have h2:(wR d dead).length≤dead.length+1:=by unfold wR;split <;> simp
   simp only [List.foldl_cons,List.length_cons];omega
theorem QB {d x:Dot} {l:List Dot}:x∈wR d l↔x=d∨x∈l:=by
 unfold wR;split
 ·rename_i h
  constructor
  ·exact Or.inr
  ·rintro (rfl | h2)
   ·exact h
   ·exact h2
 ·exact List.mem_cons
theorem lQ:∀ {l dead:List Dot} {x:Dot},x∈l.foldl (fun l d=>wR d l) dead↔x∈l∨x∈dead
 | [],dead,x=>by simp
 | d :: l,dead,x=>by
   rw [List.foldl_cons,lQ,QB,List.mem_cons];constructor
   ·rintro (h | h | h)
    ·exact Or.inl (Or.inr h)
    ·exact Or.inl (Or.inl h)
    ·exact Or.inr h
   ·rintro ((h | h) | h)
    ·exact Or.inr (Or.inl h)
    ·exact Or.inl h
    ·exact Or.inr (Or.inr h)
theorem Jo {pairs:List (Key×Dot)} {d:Dot} {q:Key×Dot}:q∈strike pairs d↔q∈pairs∧q.2≠d:=by
 unfold strike;rw [List.mem_filter,decide_eq_true_eq]
theorem rO:∀ {l:List Dot} {P:List (Key×Dot)} {q:Key×Dot},q∈l.foldl strike P↔q∈P∧q.2 ∉ l
 | [],P,q=>by simp
 | d :: l,P,q=>by
   rw [List.foldl_cons,rO,Jo,List.mem_cons];constructor
   ·rintro ⟨⟨h1,h2⟩,h3⟩
    exact ⟨h1,fun h=>h.elim h2 h3⟩
   ·rintro ⟨h1,h2⟩
    exact ⟨⟨h1,fun h=>h2 (Or.inl h)⟩,fun h=>h2 (Or.inr h)⟩
theorem pU:∀ (l:List Dot) {P:List (Key×Dot)},P.Nodup→(l.foldl strike P).Nodup
 | [],_,h=>h
 | _ :: l,_,h=>pU l (h.filter _)
theorem kF {s:MS} {e:Ev} (h:pI s e=true):eF e=true∧iJ s.ctx e.dot=false∧jl s.ctx e.dot.a+1=e.dot.seq∧s.K.length<2048:=by
 unfold pI at h;simpa using h
theorem vW {l:List Dot} {e d:Dot} (hd:bJ d=true) (he:jl l e.a+1=e.seq):iJ (setM l e.a e.seq) d=(iJ l d || decide (d=e)):=by
 unfold iJ;rw [hd,BC,Bool.true_and,Bool.true_and,Bool.eq_iff_iff];simp only [Bool.or_eq_true,decide_eq_true_eq];by_cases h:d.a=e.a
 ·rw [if_pos h]
  constructor
  ·intro h2
   by_cases h3:d.seq=e.seq
   ·exact Or.inr (by cases d;cases e;simp_all)
   ·exact Or.inl (by rw [h];omega)
  ·rintro (h2 | h2)
   ·rw [h] at h2;omega
   ·rw [h2];omega
 ·rw [if_neg h]
  constructor
  ·exact Or.inl
  ·rintro (h2 | h2)
   ·exact h2
   ·exact absurd (by rw [h2]) h
theorem z128 {p : Prop} (h : p := by
 obtain ⟨x, hx, y1, y2, y3, y4⟩ := (hi.pairs _ _).1 hq
 exact ⟨x, hK.mem_iff.2 (List.mem_cons_of_mem _ hx), y1, y2, y3, fun h => h.elim hno y4⟩) : p := h
theorem MInv.applied {s s':MS} {e:Ev} (hi:MInv s) (h:pI s e=true) (ha:Applied s e s'):MInv s':=by
 obtain ⟨h1,h2,h3,h4⟩:=kF h;obtain ⟨p1,p2,p3,p4,p5⟩:=fE h1;obtain ⟨a,c,hK⟩:=ha.kept;have hold:∀ x∈s.K,x.1.dot≠e.dot:=fun x hx e2=>by
  have:=(hi.kept x hx).2;rw [e2,h2] at this
  cases this
 have hpe:∀ k,(k,e.dot) ∉ s.pairs:=fun k hk=>by
  obtain ⟨x,hx,_,q,_⟩:=(hi.pairs _ _).1 hk;exact hold x hx q
 refine ⟨by rw [ha.ctx];exact zK hi.ctx,fun d hd=>?_,fun x hx=>?_,fun k d=>?_,?_,fun d hd=>?_,?_⟩
 ·rw [ha.ctx] at hd
  rcases zL hd with rfl | hd
  ·exact p1
  ·exact hi.ctxOk d hd
 ·rcases List.mem_cons.1 (hK.mem_iff.1 hx) with rfl | hx
  ·refine ⟨h1,?_⟩
   rw [ha.ctx,vW p1 h3];simp
  ·obtain ⟨q1,q2⟩:=hi.kept x hx
   refine ⟨q1,?_⟩;rw [ha.ctx,vW (fE q1).1 h3,q2];rfl
 ·rw [ha.pairs,rO,ha.dead,lQ]
  unfold JQ;by_cases hp:e.kind=1∧e.dot ∉ s.dead
  ·rw [if_pos hp,List.mem_cons]
   constructor
   ·rintro ⟨hq | hq,hno⟩
    ·simp only [Prod.mk.injEq] at hq
     obtain ⟨rfl,rfl⟩:=hq;exact ⟨(e,a,c),hK.mem_iff.2 List.mem_cons_self,hp.1,rfl,rfl,fun h=>h.elim hno hp.2⟩
    ·exact z128
   ·rintro ⟨x,hx,y1,y2,y3,y4⟩
    refine ⟨?_,fun h=>y4 (Or.inl h)⟩;rcases List.mem_cons.1 (hK.mem_iff.1 hx) with rfl | hx
    ·exact Or.inl (by rw [← y2,← y3])
    ·exact Or.inr ((hi.pairs _ _).2 ⟨x,hx,y1,y2,y3,fun h=>y4 (Or.inr h)⟩)
  ·rw [if_neg hp]
   constructor
   ·rintro ⟨hq,hno⟩
    exact z128
   ·rintro ⟨x,hx,y1,y2,y3,y4⟩
    refine ⟨?_,fun h=>y4 (Or.inl h)⟩;rcases List.mem_cons.1 (hK.mem_iff.1 hx) with rfl | hx
    ·exact absurd ⟨y1,fun h=>y4 (Or.inr (by rw [← y2];exact h))⟩ hp
    ·exact (hi.pairs _ _).2 ⟨x,hx,y1,y2,y3,fun h=>y4 (Or.inr h)⟩
 ·rw [ha.pairs]
  apply pU;unfold JQ;split
  ·exact List.nodup_cons.2 ⟨hpe _,hi.pnd⟩
  ·exact hi.pnd
 ·rw [ha.dead,lQ] at hd
  rcases hd with hd | hd
  ·exact p2 d hd
  ·exact hi.dead d hd
 ·rw [hK.length_eq]
  simp only [List.length_cons];omega
theorem MInv.empty:MInv MS.empty:=⟨List.Pairwise.nil,fun d hd=>(nomatch hd),fun x hx=>(nomatch hx),fun k d=>⟨fun h=>(nomatch h),fun ⟨x,hx,_⟩=>(nomatch hx)⟩,List.nodup_nil,fun d hd=>(nomatch hd),Nat.zero_le _⟩
/-- behind Apply, whatever was answered -/
theorem RetAp.inv {m:Nat} {b:MB} {s s':MS} {e:Ev} (hi:MInv s) (h:if pI s e=true then Applied s e s' else s'=s):MInv s':=by
 split at h
 ·rename_i h1;exact hi.applied h1 h
 ·rw [h];exact hi
theorem RetAp.sizes {s s':MS} {e:Ev} (h:if pI s e=true then Applied s e s' else s'=s):s'.ctx.length≤s.ctx.length+1∧s'.dead.length≤s.dead.length+64:=by
 split at h
 ·rename_i h1
  have h2:=(fE (kF h1).1).2.2.1;rw [h.ctx,h.dead];have h3:=xY s.ctx e.dot.a e.dot.seq;have h4:=oO e.over s.dead;omega
 ·rw [h];omega
end Go.Proofs.YtepkclldbkhanaaGreat
