/- The map and the reference's map, plainly: what is applied to both. Conditions: none. -/
import Derived.Test.YtepkclldbkhanaaGreatDelta
set_option linter.unusedSimpArgs false
set_option linter.unusedVariables false
set_option linter.unnecessarySimpa false
set_option maxHeartbeats 16000000
set_option maxRecDepth 100000
namespace Go.Proofs.YtepkclldbkhanaaGreat
open Go.RowKit
/-- by dots, each dot once -/
def zk (l:List Ev):Prop:=l.Pairwise fun x y=>dG x.dot y.dot=true
theorem uY {l m:List Ev} (h:zk l) (k:zk m) (e:∀ x,x∈l↔x∈m):l=m:=zl (lt:=fun x y:Ev=>dG x.dot y.dot) (fun x=>eH x.dot) (fun _ _ _=>iW) h k e
theorem Bh {e:Ev}:∀ {l:List Ev} {x:Ev},x∈xC e l↔x=e∨x∈l
 | [],x=>by simp [xC]
 | y :: l,x=>by
   unfold xC;split
   ·rw [List.mem_cons,Bh,List.mem_cons]
    constructor
    ·exact z46
    ·exact z46
   ·rw [List.mem_cons]
theorem Hq {e:Ev}:∀ {l:List Ev},zk l→(∀ x∈l,x.dot≠e.dot)→zk (xC e l)
 | [],_,_=>by simp [xC,zk]
 | y :: l,h,hn=>by
   obtain ⟨h1,h2⟩:=List.pairwise_cons.1 h;unfold xC;split
   ·rename_i hy
    refine List.pairwise_cons.2 ⟨fun x hx=>?_,Hq h2 (fun x hx=>hn x (List.mem_cons_of_mem _ hx))⟩;rcases Bh.1 hx with rfl | hx
    ·exact hy
    ·exact h1 x hx
   ·rename_i hy
    have hgt:dG e.dot y.dot=true:=oU (fun e2=>hn y List.mem_cons_self e2) (Bool.eq_false_iff.2 hy);refine List.pairwise_cons.2 ⟨fun x hx=>?_,h⟩;rcases List.mem_cons.1 hx with rfl | hx
    ·exact hgt
    ·exact iW hgt (h1 x hx)
theorem yt (e:Ev):∀ l:List Ev,(xC e l).length=l.length+1
 | []=>rfl
 | y :: l=>by
   unfold xC;split
   ·simp [yt e l]
   ·simp
theorem mP {K:List bH} (h:(K.map (·.1.dot)).Nodup) {x:bH} (hx:x∈K):evAt K x.1.dot=x.1:=by
 unfold evAt
 cases hf:K.find? fun y=>decide (y.1.dot=x.1.dot) with
 | none =>
   have:=List.find?_eq_none.1 hf x hx;simp at this
 | some y =>
   have h1:=List.mem_of_find?_eq_some hf;have h2:y.1.dot=x.1.dot:=by simpa using List.find?_some hf
   show y.1=x.1;have hxy:y=x:=by
    rw [List.Nodup,List.pairwise_map] at h;have hp:=List.pairwise_iff_getElem.1 h;obtain ⟨i,hi,rfl⟩:=List.getElem_of_mem h1;obtain ⟨j,hj,rfl⟩:=List.getElem_of_mem hx;rcases Nat.lt_trichotomy i j with hij | hij | hij
    ·exact absurd h2 (hp i j hi hj hij)
    ·subst hij;rfl
    ·exact absurd h2.symm (hp j i hj hi hij)
   rw [hxy]
theorem iG {s:MS} (h:(s.K.map (·.1.dot)).Nodup) {x:Ev}:x∈dh s↔∃ y∈s.K,y.1=x:=by
 unfold dh;rw [List.mem_map];constructor
 ·rintro ⟨d,hd,rfl⟩
  obtain ⟨y,hy,rfl⟩:=List.mem_map.1 (dm.1 hd);exact ⟨y,hy,(mP h hy).symm⟩
 ·rintro ⟨y,hy,rfl⟩
  exact ⟨y.1.dot,dm.2 (List.mem_map.2 ⟨y,hy,rfl⟩),mP h hy⟩
theorem Dl {s:MS} (h:(s.K.map (·.1.dot)).Nodup):(dh s).map (·.dot)=sortD (s.K.map fun x=>x.1.dot):=by
 unfold dh;rw [List.map_map];conv=>rhs;rw [← List.map_id (sortD (s.K.map fun x=>x.1.dot))]
 refine List.map_congr_left fun d hd=>?_;obtain ⟨y,hy,rfl⟩:=List.mem_map.1 (dm.1 hd);show (evAt s.K y.1.dot).dot=y.1.dot;rw [mP h hy]
theorem mO {s:MS} (h:(s.K.map (·.1.dot)).Nodup):zk (dh s):=by
 have h1:=jC (s.K.map fun x=>x.1.dot);rw [← Dl h] at h1;exact List.pairwise_map.1 h1
theorem EJ {l:List Dot} (h:l.Nodup):(sortD l).length=l.length:=by
 refine Nat.le_antisymm (jD l) (pO h fun x hx=>dm.2 hx)
theorem jI {s:MS} (h:(s.K.map (·.1.dot)).Nodup):(dh s).length=s.K.length:=by
 unfold dh;rw [List.length_map,EJ h,List.length_map]
/-- a map's state and the reference's -/
structure Rel (s:MS) (r:RM):Prop where
 nd:(s.K.map (·.1.dot)).Nodup
 ctx:r.ctx=s.ctx
 kept:r.kept=dh s
 dead:r.dead=sortD s.dead
def RM.empty:RM:=⟨[],[],[]⟩
theorem Rel.empty:Rel MS.empty RM.empty:=⟨List.nodup_nil,rfl,rfl,rfl⟩
theorem Rel.ok {s:MS} {r:RM} (h:Rel s r) (e:Ev):QX r e=pI s e:=by
 unfold QX pI;rw [h.ctx,h.kept,jI h.nd]
theorem Rel.applied {s s':MS} {r:RM} {e:Ev} (h:Rel s r) (hi:MInv s) (hok:pI s e=true) (ha:Applied s e s'):Rel s' (Gt r e):=by
 obtain ⟨a,c,hk⟩:=ha.kept;obtain ⟨q1,q2,q3,q4⟩:=kF hok;have hnew:∀ x∈s.K,x.1.dot≠e.dot:=fun x hx e2=>by
  have:=(hi.kept x hx).2;rw [e2,q2] at this
  cases this
 have hnd:(s'.K.map (·.1.dot)).Nodup:=by
  refine (hk.map fun x:bH=>x.1.dot).nodup_iff.2 ?_;rw [List.map_cons,List.nodup_cons];refine ⟨fun hm=>?_,h.nd⟩;obtain ⟨x,hx,e2⟩:=List.mem_map.1 hm;exact hnew x hx e2
 unfold Gt;rw [h.ok,hok,if_pos rfl];refine ⟨hnd,?_,?_,?_⟩
 ·show zN r.ctx e.dot.a e.dot.seq=s'.ctx
  rw [h.ctx,su hi.ctx,ha.ctx]
 ·show xC e r.kept=dh s'
  rw [h.kept];refine uY (Hq (mO h.nd) fun x hx=>?_) (mO hnd) fun x=>?_
  ·obtain ⟨y,hy,rfl⟩:=(iG h.nd).1 hx
   exact hnew y hy
  ·rw [Bh,iG h.nd,iG hnd]
   constructor
   ·rintro (rfl | ⟨y,hy,rfl⟩)
    ·exact ⟨(x,a,c),hk.mem_iff.2 List.mem_cons_self,rfl⟩
    ·exact ⟨y,hk.mem_iff.2 (List.mem_cons_of_mem _ hy),rfl⟩
   ·rintro ⟨y,hy,rfl⟩
    rcases List.mem_cons.1 (hk.mem_iff.1 hy) with rfl | hy
    ·exact Or.inl rfl
    ·exact Or.inr ⟨y,hy,rfl⟩
 ·show sortD (r.dead++e.over)=sortD s'.dead
  rw [h.dead,ha.dead];refine kH fun x=>?_;rw [List.mem_append,dm,lQ];exact Or.comm
theorem Rel.any {s s':MS} {r:RM} {e:Ev} (h:Rel s r) (hi:MInv s) (ha:if pI s e=true then Applied s e s' else s'=s):Rel s' (Gt r e):=by
 split at ha
 ·rename_i hok
  exact h.applied hi hok ha
 ·rename_i hok
  subst ha;unfold Gt;rw [h.ok,if_neg hok];exact h
theorem Merged.rel {s:MS} {r:RM} (h:Rel s r) (hi:MInv s) {l:List Ev} {s':MS} {n:Nat} {f:Int} (hM:Merged s l s' n f):Rel s' (l.foldl Gt r):=by
 induction hM with
 | nil=>exact h
 | snoc h2 hap ih =>
   rw [List.foldl_append];exact ih.any (h2.facts hi).1 hap
/-! ### sizes behind a number of events -/
structure RMGood (r:RM) (n:Nat):Prop where
 srt:qP r.ctx
 ok:∀ d∈r.ctx,bJ d=true
 ctx:r.ctx.length≤n
 kept:r.kept.length≤n
 dead:r.dead.length≤64 * n
theorem RMGood.empty:RMGood RM.empty 0:=⟨List.Pairwise.nil,fun d hd=>(nomatch hd),Nat.le_refl _,Nat.le_refl _,Nat.le_refl _⟩
theorem RMGood.ap {r:RM} {n:Nat} (h:RMGood r n) (e:Ev):RMGood (Gt r e) (n+1):=by
 unfold Gt;split
 ·rename_i hok
  have hev:eF e=true:=by
   unfold QX at hok;rw [Bool.and_eq_true] at hok;exact hok.1
  obtain ⟨q1,q2,q3,_⟩:=fE hev;refine ⟨?_,?_,?_,?_,?_⟩
  ·show qP (zN _ _ _)
   rw [su h.srt];exact zK h.srt
  ·intro d hd
   rw [show (⟨zN r.ctx e.dot.a e.dot.seq,xC e r.kept,sortD (r.dead++e.over)⟩:RM).ctx=setM r.ctx e.dot.a e.dot.seq from su h.srt _ _] at hd;rcases zL hd with rfl | hd
   ·exact q1
   ·exact h.ok d hd
  ·show (zN _ _ _).length≤_
   rw [su h.srt];have:=xY r.ctx e.dot.a e.dot.seq;have:=h.ctx;omega
  ·show (xC _ _).length≤_
   rw [yt];have:=h.kept;omega
  ·show (sortD _).length≤_
   have h1:=jD (r.dead++e.over);rw [List.length_append] at h1;have:=h.dead;omega
 ·exact ⟨h.srt,h.ok,Nat.le_succ_of_le h.ctx,Nat.le_succ_of_le h.kept,by have:=h.dead;omega⟩
theorem RMGood.fold {r:RM} {n:Nat} (h:RMGood r n):∀ (l:List Ev),RMGood (l.foldl Gt r) (n+l.length):=by
 intro l;induction l generalizing r n with
 | nil=>exact h
 | cons e l ih =>
   have:=ih (h.ap e);rw [List.foldl_cons,List.length_cons];rwa [show n+(l.length+1)=n+1+l.length by omega]
theorem RMGood.size {x:RMIt} {n:Nat} (h:RMGood x.rm n) (hn:n≤4096):RMSize x:=by
 have h1:=h.ctx;have h2:=h.kept;have h3:=h.dead;have h4:(aU x.K).length≤n:=h2;rw [bi] at h4;exact ⟨Nat.le_trans h1 (by omega),by omega,Nat.le_trans h3 (by omega),h.ok⟩
/-- what was applied is kept -/
def FullM (s:MS):Prop:=∀ d,iJ s.ctx d=true→∃ x∈s.K,x.1.dot=d
theorem FullM.empty:FullM MS.empty:=fun d h=>by
 have h1:iJ MS.empty.ctx d=(bJ d && decide (d.seq≤0)):=rfl;rw [h1,Bool.and_eq_true,decide_eq_true_eq] at h;have h2:=h.1;simp only [bJ,Bool.and_eq_true,decide_eq_true_eq] at h2;omega
theorem RI {l:List Dot} {d:Dot} (h:iJ l d=true):bJ d=true∧d.seq≤jl l d.a:=by
 unfold iJ at h;rw [Bool.and_eq_true,decide_eq_true_eq] at h;exact h
theorem FullM.applied {s s':MS} {e:Ev} (h:FullM s) (hok:pI s e=true) (ha:Applied s e s'):FullM s':=fun d hd=>by
 obtain ⟨a,c,hk⟩:=ha.kept;obtain ⟨q1,q2,q3,q4⟩:=kF hok;have hdk:=(RI hd).1;rw [ha.ctx,vW hdk q3,Bool.or_eq_true,decide_eq_true_eq] at hd;rcases hd with hd | rfl
 ·obtain ⟨x,hx,h1⟩:=h d hd
  exact ⟨x,hk.mem_iff.2 (List.mem_cons_of_mem _ hx),h1⟩
 ·exact ⟨(e,a,c),hk.mem_iff.2 List.mem_cons_self,rfl⟩
theorem Merged.full {s:MS} (hs:FullM s) {l:List Ev} {s':MS} {n:Nat} {f:Int} (h:Merged s l s' n f):FullM s':=by
 induction h with
 | nil=>exact hs
 | snoc _ hap ih =>
   split at hap
   ·rename_i hok
    exact ih.applied hok hap
   ·rw [hap];exact ih
/-- the events to come can be applied, one behind the other -/
structure Next (t:MS) (r:List Ev):Prop where
 new:∀ x∈r,iJ t.ctx x.dot=false
 pred:∀ x∈r,jl t.ctx x.dot.a+1=x.dot.seq∨∃ y∈r,y.dot=⟨x.dot.a,x.dot.seq - 1⟩
theorem QA {s:MS} {e:Ev} (h:pI s e=true):Cj s e=0:=by
 obtain ⟨q1,q2,q3,q4⟩:=kF h;unfold Cj;rw [if_pos q1,q2,if_neg (by simp),if_pos q3,if_pos q4]
theorem OA {a:Actor} {m n:Int} (h:m<n):dG ⟨a,m⟩ ⟨a,n⟩=true:=by
 unfold dG bK;simp [h]
theorem Merged.all {t:MS} {p:List Ev} {t1:MS} {n:Nat} {f:Int} (hM:Merged t p t1 n f):∀ (r:List Ev),zk (p++r)→Next t (p++r)→t.K.length+(p++r).length≤2048→(∀ x∈p++r,eF x=true) →
 n=p.length∧f=0∧Next t1 r∧(∀ d,bJ d=true→iJ t1.ctx d=(iJ t.ctx d || decide (d∈p.map (·.dot))))∧t1.K.length=t.K.length+p.length:=by
 induction hM with
 | nil=>exact fun r _ hN _ _=>⟨rfl,rfl,hN,fun d _=>by simp,rfl⟩
 | snoc h2 hap ih =>
   rename_i p s1 s2 n f e;intro r hs hN hl hok;rw [List.append_assoc] at hs hN hl hok;obtain ⟨rfl,rfl,hN1,hh,hk⟩:=ih (e :: r) hs hN hl hok;have hse:zk (e :: r):=(List.pairwise_append.1 hs).2.1;obtain ⟨TR,XD⟩:=List.pairwise_cons.1 hse;have heo:eF e=true:=hok e (by simp);have hdo:=(fE heo).1;have hq:jl s1.ctx e.dot.a+1=e.dot.seq:=by
    rcases hN1.pred e List.mem_cons_self with h | ⟨y,hy,hyd⟩
    ·exact h
    ·exfalso
     have hlt:dG y.dot e.dot=true:=by rw [hyd];exact OA (a:=e.dot.a) (m:=e.dot.seq - 1) (n:=e.dot.seq) (by omega)
     rcases List.mem_cons.1 hy with rfl | hy
     ·rw [eH] at hlt;cases hlt
     ·have:=iW hlt (TR y hy)
      rw [eH] at this
      cases this
   have Uj:pI s1 e=true:=by
    unfold pI;have hlen:s1.K.length<2048:=by
        rw [hk];simp only [List.length_append,List.length_cons] at hl;omega
    rw [heo,hN1.new e List.mem_cons_self,decide_eq_true hq,decide_eq_true hlen];rfl
   rw [if_pos Uj] at hap;obtain ⟨a,c,hkp⟩:=hap.kept;have hh2:∀ d,bJ d=true→iJ s2.ctx d=(iJ s1.ctx d || decide (d=e.dot)):=fun d hd=>by rw [hap.ctx,vW hd hq]
   refine ⟨by rw [if_pos Uj];simp,by rw [if_pos rfl,QA Uj],⟨fun x hx=>?_,fun x hx=>?_⟩,fun d hd=>?_,by rw [hkp.length_eq,List.length_cons,hk];simp;omega⟩
   ·have hxo:=(fE (hok x (by simp [hx]))).1
    rw [hh2 _ hxo,hN1.new x (List.mem_cons_of_mem _ hx),Bool.false_or];exact decide_eq_false fun e2=>by have:=TR x hx;rw [e2,eH] at this;cases this
   ·rw [hap.ctx,BC]
    rcases hN1.pred x (List.mem_cons_of_mem _ hx) with h | ⟨y,hy,hyd⟩
    ·by_cases hxa:x.dot.a=e.dot.a
     ·exfalso
      rw [hxa] at h;have e3:x.dot=e.dot:=by
           have:x.dot.seq=e.dot.seq:=by omega
           cases hx9:x.dot;cases he9:e.dot;simp_all
      have:=TR x hx;rw [e3,eH] at this
      cases this
     ·rw [if_neg hxa];exact Or.inl h
    ·rcases List.mem_cons.1 hy with rfl | hy
     ·rw [hyd,if_pos rfl]
      exact Or.inl (by show x.dot.seq - 1+1=_;omega)
     ·exact Or.inr ⟨y,hy,hyd⟩
   ·rw [hh2 d hd,hh d hd]
    simp [Bool.or_assoc,List.mem_append]
/-! ### 17.Covers -/
/-! ### 22.Of -/
/-- a block of slices is no list's -/
def Sl3 (w:World) (R:Nat):Prop:=∃ a n c a2 n2 c2 a3 n3 c3 t f,w.heap[R]?=some (.cells #[.slice a n c,.slice a2 n2 c2,.slice a3 n3 c3] t f)
theorem Sl3.int {w:World} {R:Nat} (h:Sl3 w R) {A o:Nat} {k:IntKind} {n:Int} (hc:w.cell? ⟨A,o,none⟩=some (.int k n)):A≠R:=by
 rintro rfl;obtain ⟨a,n,c,a2,n2,c2,a3,n3,c3,t,f,hh⟩:=h;simp only [World.cell?,hh] at hc;match o,hc with
 | 0,hc=>simp at hc
 | 1,hc=>simp at hc
 | 2,hc=>simp at hc
 | o+3,hc=>simp at hc
abbrev Gs (x:RMIt):Array Value:=#[.slice x.ac x.ctx.length x.cc,.slice x.aK x.K.length x.cK,.slice x.ad x.dead.length x.cd]
def RMAt (w:World) (R:Nat) (x:RMIt):Prop:=w.heap[R]?=some (.cells (Gs x) 36 (0,0))
theorem RMAt.cells {w:World} {R:Nat} {x:RMIt} (h:RMAt w R x):w.cell? ⟨R,0,none⟩=some (.slice x.ac x.ctx.length x.cc)∧w.cell? ⟨R,1,none⟩=some (.slice x.aK x.K.length x.cK)∧w.cell? ⟨R,2,none⟩=some (.slice x.ad x.dead.length x.cd):=by
 simp only [RMAt,Gs] at h;simp [World.cell?,h]
theorem RMAt.kept {w w':World} {R:Nat} {x:RMIt} (h:RMAt w R x) (hb:Below w.heap.size w w'):RMAt w' R x:=(hb.block _ (lt_of_block h)).trans h
def rm0:RMIt:=⟨none,[],0,none,[],0,none,[],0⟩
theorem TJ (w:World):RMIn w rm0:=⟨Or.inl rfl,⟨Or.inl rfl,fun x hx=>(nomatch hx)⟩,Or.inl rfl,Nat.le_refl _,Nat.le_refl _,Nat.le_refl _⟩
/-- a map made of events, and the reference's -/
structure MadeIn (w:World) (m:Nat) (b:MB) (s:MS) (y:RMIt) (l:List Ev) (base:Nat):Prop where
 map:MpIn w m b s
 inv:MInv s
 ref:RMIn w y
 rel:Rel s y.rm
 good:RMGood y.rm l.length
 ctx:s.ctx.length≤l.length
 dead:s.dead.length≤64 * l.length
 low:∀ k,foot b s.A k→base≤k
 merged:∃ n f,Merged MS.empty l s n f
end Go.Proofs.YtepkclldbkhanaaGreat
