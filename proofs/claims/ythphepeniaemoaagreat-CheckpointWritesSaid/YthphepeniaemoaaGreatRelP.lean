/- Deltas: both, Needs, Behind. Conditions: as in the text. -/
import Derived.Test.YthphepeniaemoaaGreatVecD
import Derived.OwnWalk
import Derived.Test.YthphepeniaemoaaGreatOrmH
import Derived.Test.YthphepeniaemoaaGreatRefE
set_option linter.unusedSimpArgs false
set_option linter.unusedVariables false
set_option linter.unnecessarySimpa false
set_option maxHeartbeats 16000000
set_option maxRecDepth 100000
namespace Go.Proofs.YthphepeniaemoaaGreat
open Go.RowKit
theorem MInv.marks {s:MS} (h:MInv s) (hl:s.ctx.length<=4096):aZ s.ctx=0:=by
 have key:∀ (l:List Dot) (p:Option Dot),pW l->(∀ d∈l,bn d=true)->(∀ y,p=some y->∀ d∈l,bC y.a d.a=true)->eF p l=0:=by
  intro l;induction l with
  | nil=>intro p _ _ _;rfl
  | cons x r ih =>
    intro p h1 h2 h3;obtain ⟨h4,h5⟩:=List.pairwise_cons.1 h1;unfold eF;rw [if_pos (h2 x List.mem_cons_self),if_pos]
    ·exact ih _ h5 (fun d hd=>h2 d (List.mem_cons_of_mem _ hd)) (fun y hy d hd=>by cases hy;exact h4 d hd)
    ·cases p with
     | none=>rfl
     | some y=>exact h3 y rfl x List.mem_cons_self
 unfold aZ;rw [if_neg (by omega)];exact key _ _ h.ctx h.ctxOk (fun y hy=>(nomatch hy))
/-! ### a nil map -/
theorem MInv.overs {s:MS} (h:MInv s):∀ x∈s.K,x.1.over.length<=64:=fun x hx=>(fH (h.kept x hx).1).2.2.1
theorem MInv.dots {s:MS} (h:MInv s):∀ x∈s.K,DotW x.1.dot:=fun x hx=>iw (fH (h.kept x hx).1).1
/-- what the closure holds: the map's address, how many, the first error -/
structure MgBox (w:World) (m X Y Z:Nat) (n f:Int):Prop where
 x:w.heap[X]?=some (.cells #[.pointer (some ⟨m,0,none⟩)] 40 (0,0))
 y:w.heap[Y]?=some (.cells #[.int .i64 n] 3 (0,0))
 z:w.heap[Z]?=some (.cells #[.int .i64 f] 36 (0,0))
 ne:X≠Y/\X≠Z/\Y≠Z
theorem MgBox.blocks {w w':World} {m X Y Z:Nat} {n f:Int} (h:MgBox w m X Y Z n f) (hx:w'.heap[X]?=w.heap[X]?) (hy:w'.heap[Y]?=w.heap[Y]?) (hz:w'.heap[Z]?=w.heap[Z]?):MgBox w' m X Y Z n f:=⟨hx.trans h.x,hy.trans h.y,hz.trans h.z,h.ne⟩
theorem MgBox.keeps {w w':World} {m X Y Z:Nat} {n f:Int} (h:MgBox w m X Y Z n f) (hk:KeepsC w w'):MgBox w' m X Y Z n f:=⟨hk _ _ _ _ h.x,hk _ _ _ _ h.y,hk _ _ _ _ h.z,h.ne⟩
/-- events merged one after the other: the map behind them, how many were applied, the first error -/
inductive Merged (s:MS):List Ev->MS->Nat->Int->Prop
 | nil:Merged s [] s 0 0
 | snoc {l:List Ev} {s1 s2:MS} {n:Nat} {f:Int} {e:Ev}:Merged s l s1 n f->(if jI s1 e=true then Applied s1 e s2 else s2=s1)->Merged s (l++[e]) s2 (if jI s1 e=true then n+1 else n) (if f=0 then kZ s1 e else f)
theorem Merged.facts {s:MS} {l:List Ev} {s':MS} {n:Nat} {f:Int} (h:Merged s l s' n f) (hi:MInv s):MInv s'/\s'.ctx.length<=s.ctx.length+l.length/\s'.dead.length<=s.dead.length+64 * l.length/\n<=l.length:=by
 induction h with
 | nil=>exact ⟨hi,by simp,by simp,ar _⟩
 | snoc _ hap ih =>
   obtain ⟨i1,i2,i3,i4⟩:=ih;obtain ⟨g1,g2⟩:=RetAp.sizes hap;refine ⟨RetAp.inv (m:=0) (b:=⟨0,0,0,0,0⟩) i1 hap,?_,?_,?_⟩
   ·simp only [av,List.length_cons,List.length_nil];omega
   ·simp only [av,List.length_cons,List.length_nil];omega
   ·simp only [av,List.length_cons,List.length_nil];split <;> omega
theorem Merged.none {s s':MS} {l:List Ev} {n:Nat} {f:Int} (h:Merged s l s' n f) (hl:l=[]):s'=s/\n=0/\f=0:=by
 cases h with
 | nil=>exact ⟨rfl,rfl,rfl⟩
 | snoc _ _=>simp at hl
theorem Merged.one {s s':MS} {l:List Ev} {e:Ev} {n:Nat} {f:Int} (h:Merged s l s' n f) (hl:l=[e]):(if jI s e=true then Applied s e s' else s'=s)/\n=(if jI s e=true then 1 else 0)/\f=kZ s e:=by
 cases h with
 | nil=>simp at hl
 | snoc h2 hap =>
   rename_i l2 s1 n2 f2 e2;have h3:l2=[]/\e2=e:=by
    have h4:=congrArg List.length hl;simp at h4;subst h4;simpa using hl
   obtain ⟨rfl,rfl⟩:=h3;obtain ⟨rfl,rfl,rfl⟩:=h2.none rfl;exact ⟨hap,by simp,by simp⟩
/-- by dots, each dot once -/
def Dh (l:List Ev):Prop:=l.Pairwise fun x y=>cu x.dot y.dot=true
theorem GH {l m:List Ev} (h:Dh l) (k:Dh m) (e:∀ x,x∈l↔x∈m):l=m:=zU (lt:=fun x y:Ev=>cu x.dot y.dot) (fun x=>fO x.dot) (fun _ _ _=>iL) h k e
theorem BL {e:Ev}:∀ {l:List Ev} {x:Ev},x∈sZ e l↔x=e\/x∈l
 | [],x=>by simp [sZ]
 | y :: l,x=>by
   unfold sZ;split
   ·rw [List.mem_cons,BL,List.mem_cons]
    constructor
    ·exact z83
    ·exact z83
   ·rw [List.mem_cons]
theorem Ir {e:Ev}:∀ {l:List Ev},Dh l->(∀ x∈l,x.dot≠e.dot)->Dh (sZ e l)
 | [],_,_=>by simp [sZ,Dh]
 | y :: l,h,hn=>by
   obtain ⟨h1,h2⟩:=List.pairwise_cons.1 h;unfold sZ;split
   ·rename_i hy
    refine List.pairwise_cons.2 ⟨fun x hx=>?_,Ir h2 (fun x hx=>hn x (List.mem_cons_of_mem _ hx))⟩;rcases BL.1 hx with rfl | hx
    ·exact hy
    ·exact h1 x hx
   ·rename_i hy
    have hgt:cu e.dot y.dot=true:=pz (fun e2=>hn y List.mem_cons_self e2) (Bool.eq_false_iff.2 hy);refine List.pairwise_cons.2 ⟨fun x hx=>?_,h⟩;rcases List.mem_cons.1 hx with rfl | hx
    ·exact hgt
    ·exact iL hgt (h1 x hx)
theorem zh (e:Ev):∀ l:List Ev,(sZ e l).length=l.length+1
 | []=>rfl
 | y :: l=>by
   unfold sZ;split
   ·simp [zh e l]
   ·simp
theorem F7 {K:List EvIt} (h:(K.map (·.1.dot)).Nodup) {x:EvIt} (hx:x∈K):evAt K x.1.dot=x.1:=by
 unfold evAt
 cases hf:K.find? fun y=>decide (y.1.dot=x.1.dot) with
 | none =>
   have:=List.find?_eq_none.1 hf x hx;simp at this
 | some y =>
   have h1:=List.mem_of_find?_eq_some hf;have h2:y.1.dot=x.1.dot:=by simpa using List.find?_some hf
   show y.1=x.1;have hxy:y=x:=by
    rw [List.Nodup,List.pairwise_map] at h;have hp:=List.pairwise_iff_getElem.1 h;obtain ⟨i,hi,rfl⟩:=List.getElem_of_mem h1;obtain ⟨j,hj,rfl⟩:=List.getElem_of_mem hx;rcases Nat.lt_trichotomy i j with hij | hij | hij
    ·exact absurd h2 (hp i j hi hj hij)
    ·subst hij;rfl
    ·exact absurd h2.symm (hp j i hj hi hij)
   rw [hxy]
theorem gG {s:MS} (h:(s.K.map (·.1.dot)).Nodup) {x:Ev}:x∈bU s↔∃ y∈s.K,y.1=x:=by
 unfold bU;rw [List.mem_map];constructor
 ·rintro ⟨d,hd,rfl⟩
  obtain ⟨y,hy,rfl⟩:=List.mem_map.1 (fV.1 hd);exact ⟨y,hy,(F7 h hy).symm⟩
 ·rintro ⟨y,hy,rfl⟩
  exact ⟨y.1.dot,fV.2 (List.mem_map.2 ⟨y,hy,rfl⟩),F7 h hy⟩
theorem DV {s:MS} (h:(s.K.map (·.1.dot)).Nodup):(bU s).map (·.dot)=sortD (s.K.map fun x=>x.1.dot):=by
 unfold bU;rw [List.map_map];conv=>rhs;rw [<- List.map_id (sortD (s.K.map fun x=>x.1.dot))]
 refine List.map_congr_left fun d hd=>?_;obtain ⟨y,hy,rfl⟩:=List.mem_map.1 (fV.1 hd);show (evAt s.K y.1.dot).dot=y.1.dot;rw [F7 h hy]
theorem mW {s:MS} (h:(s.K.map (·.1.dot)).Nodup):Dh (bU s):=by
 have h1:=nH (s.K.map fun x=>x.1.dot);rw [<- DV h] at h1;exact List.pairwise_map.1 h1
theorem Fj {l:List Dot} (h:l.Nodup):(sortD l).length=l.length:=by
 refine Nat.le_antisymm (gX l) (qh h fun x hx=>fV.2 hx)
theorem gI {s:MS} (h:(s.K.map (·.1.dot)).Nodup):(bU s).length=s.K.length:=by
 unfold bU;rw [List.length_map,Fj h,List.length_map]
/-- a map's state and the reference's -/
structure Rel (s:MS) (r:RM):Prop where
 nd:(s.K.map (·.1.dot)).Nodup
 ctx:r.ctx=s.ctx
 kept:r.kept=bU s
 dead:r.dead=sortD s.dead
def RM.empty:RM:=⟨[],[],[]⟩
theorem Rel.empty:Rel MS.empty RM.empty:=⟨List.nodup_nil,rfl,rfl,rfl⟩
theorem Rel.ok {s:MS} {r:RM} (h:Rel s r) (e:Ev):GV r e=jI s e:=by
 unfold GV jI;rw [h.ctx,h.kept,gI h.nd]
theorem Rel.applied {s s':MS} {r:RM} {e:Ev} (h:Rel s r) (hi:MInv s) (hok:jI s e=true) (ha:Applied s e s'):Rel s' (rW r e):=by
 obtain ⟨a,c,hk⟩:=ha.kept;obtain ⟨q1,q2,q3,q4⟩:=jY hok;have hnew:∀ x∈s.K,x.1.dot≠e.dot:=fun x hx e2=>by
  have:=(hi.kept x hx).2;rw [e2,q2] at this
  cases this
 have hnd:(s'.K.map (·.1.dot)).Nodup:=by
  refine (hk.map fun x:EvIt=>x.1.dot).nodup_iff.2 ?_;rw [List.map_cons,List.nodup_cons];refine ⟨fun hm=>?_,h.nd⟩;obtain ⟨x,hx,e2⟩:=List.mem_map.1 hm;exact hnew x hx e2
 unfold rW;rw [h.ok,hok,if_pos rfl];refine ⟨hnd,?_,?_,?_⟩
 ·show jP r.ctx e.dot.a e.dot.seq=s'.ctx
  rw [h.ctx,um hi.ctx,ha.ctx]
 ·show sZ e r.kept=bU s'
  rw [h.kept];refine GH (Ir (mW h.nd) fun x hx=>?_) (mW hnd) fun x=>?_
  ·obtain ⟨y,hy,rfl⟩:=(gG h.nd).1 hx
   exact hnew y hy
  ·rw [BL,gG h.nd,gG hnd]
   constructor
   ·rintro (rfl | ⟨y,hy,rfl⟩)
    ·exact ⟨(x,a,c),hk.mem_iff.2 List.mem_cons_self,rfl⟩
    ·exact ⟨y,hk.mem_iff.2 (List.mem_cons_of_mem _ hy),rfl⟩
   ·rintro ⟨y,hy,rfl⟩
    rcases List.mem_cons.1 (hk.mem_iff.1 hy) with rfl | hy
    ·exact bb rfl
    ·exact bd ⟨y,hy,rfl⟩
 ·show sortD (r.dead++e.over)=sortD s'.dead
  rw [h.dead,ha.dead];refine o6 fun x=>?_;rw [List.mem_append,fV,lZ];exact Or.comm
theorem Rel.any {s s':MS} {r:RM} {e:Ev} (h:Rel s r) (hi:MInv s) (ha:if jI s e=true then Applied s e s' else s'=s):Rel s' (rW r e):=by
 split at ha
 ·rename_i hok
  exact h.applied hi hok ha
 ·rename_i hok
  subst ha;unfold rW;rw [h.ok,if_neg hok];exact h
theorem Merged.rel {s:MS} {r:RM} (h:Rel s r) (hi:MInv s) {l:List Ev} {s':MS} {n:Nat} {f:Int} (hM:Merged s l s' n f):Rel s' (l.foldl rW r):=by
 induction hM with
 | nil=>exact h
 | snoc h2 hap ih =>
   rw [List.foldl_append];exact ih.any (h2.facts hi).1 hap
/-! ### sizes behind a number of events -/
structure RMGood (r:RM) (n:Nat):Prop where
 srt:pW r.ctx
 ok:∀ d∈r.ctx,bn d=true
 ctx:r.ctx.length<=n
 kept:r.kept.length<=n
 dead:r.dead.length<=64 * n
theorem RMGood.empty:RMGood RM.empty 0:=⟨List.Pairwise.nil,fun d hd=>(nomatch hd),ar _,ar _,ar _⟩
theorem RMGood.ap {r:RM} {n:Nat} (h:RMGood r n) (e:Ev):RMGood (rW r e) (n+1):=by
 unfold rW;split
 ·rename_i hok
  have hev:dm e=true:=by
   unfold GV at hok;rw [Bool.and_eq_true] at hok;exact hok.1
  obtain ⟨q1,q2,q3,_⟩:=fH hev;refine ⟨?_,?_,?_,?_,?_⟩
  ·show pW (jP _ _ _)
   rw [um h.srt];exact Ap h.srt
  ·intro d hd
   rw [show (⟨jP r.ctx e.dot.a e.dot.seq,sZ e r.kept,sortD (r.dead++e.over)⟩:RM).ctx=setM r.ctx e.dot.a e.dot.seq from um h.srt _ _] at hd;rcases Aq hd with rfl | hd
   ·exact q1
   ·exact h.ok d hd
  ·show (jP _ _ _).length<=_
   rw [um h.srt];have:=yT r.ctx e.dot.a e.dot.seq;have:=h.ctx;omega
  ·show (sZ _ _).length<=_
   rw [zh];have:=h.kept;omega
  ·show (sortD _).length<=_
   have h1:=gX (r.dead++e.over);rw [av] at h1;have:=h.dead;omega
 ·exact ⟨h.srt,h.ok,Nat.le_succ_of_le h.ctx,Nat.le_succ_of_le h.kept,by have:=h.dead;omega⟩
theorem RMGood.fold {r:RM} {n:Nat} (h:RMGood r n):∀ (l:List Ev),RMGood (l.foldl rW r) (n+l.length):=by
 intro l;induction l generalizing r n with
 | nil=>exact h
 | cons e l ih =>
   have:=ih (h.ap e);rw [List.foldl_cons,List.length_cons];rwa [show n+(l.length+1)=n+1+l.length by omega]
theorem RMGood.size {x:RMIt} {n:Nat} (h:RMGood x.rm n) (hn:n<=4096):RMSize x:=by
 have h1:=h.ctx;have h2:=h.kept;have h3:=h.dead;have h4:(evsOf x.K).length<=n:=h2;rw [aW] at h4;exact ⟨Nat.le_trans h1 (by omega),by omega,Nat.le_trans h3 (by omega),h.ok⟩
/-- what was applied is kept -/
def FullM (s:MS):Prop:=∀ d,iq s.ctx d=true->∃ x∈s.K,x.1.dot=d
theorem FullM.empty:FullM MS.empty:=fun d h=>by
 have h1:iq MS.empty.ctx d=(bn d && decide (d.seq<=0)):=rfl;rw [h1,Bool.and_eq_true,decide_eq_true_eq] at h;have h2:=h.1;simp only [bn,Bool.and_eq_true,decide_eq_true_eq] at h2;omega
theorem Tc {l:List Dot} {d:Dot} (h:iq l d=true):bn d=true/\d.seq<=fC l d.a:=by
 unfold iq at h;rw [Bool.and_eq_true,decide_eq_true_eq] at h;exact h
theorem FullM.applied {s s':MS} {e:Ev} (h:FullM s) (hok:jI s e=true) (ha:Applied s e s'):FullM s':=fun d hd=>by
 obtain ⟨a,c,hk⟩:=ha.kept;obtain ⟨q1,q2,q3,q4⟩:=jY hok;have hdk:=(Tc hd).1;rw [ha.ctx,xw hdk q3,Bool.or_eq_true,decide_eq_true_eq] at hd;rcases hd with hd | rfl
 ·obtain ⟨x,hx,h1⟩:=h d hd
  exact ⟨x,hk.mem_iff.2 (List.mem_cons_of_mem _ hx),h1⟩
 ·exact ⟨(e,a,c),hk.mem_iff.2 List.mem_cons_self,rfl⟩
theorem Merged.full {s:MS} (hs:FullM s) {l:List Ev} {s':MS} {n:Nat} {f:Int} (h:Merged s l s' n f):FullM s':=by
 induction h with
 | nil=>exact hs
 | snoc _ hap ih =>
   split at hap
   ·rename_i hok
    exact ih.applied hok hap
   ·rw [hap];exact ih
/-- the events to come can be applied, one behind the other -/
structure Next (t:MS) (r:List Ev):Prop where
 new:∀ x∈r,iq t.ctx x.dot=false
 pred:∀ x∈r,fC t.ctx x.dot.a+1=x.dot.seq\/∃ y∈r,y.dot=⟨x.dot.a,x.dot.seq - 1⟩
theorem QW {s:MS} {e:Ev} (h:jI s e=true):kZ s e=0:=by
 obtain ⟨q1,q2,q3,q4⟩:=jY h;unfold kZ;rw [if_pos q1,q2,if_neg (by simp),if_pos q3,if_pos q4]
theorem OJ {a:Actor} {m n:Int} (h:m<n):cu ⟨a,m⟩ ⟨a,n⟩=true:=by
 unfold cu bC;simp [h]
theorem Merged.all {t:MS} {p:List Ev} {t1:MS} {n:Nat} {f:Int} (hM:Merged t p t1 n f):∀ (r:List Ev),Dh (p++r)->Next t (p++r)->t.K.length+(p++r).length<=2048->(∀ x∈p++r,dm x=true) ->
 n=p.length/\f=0/\Next t1 r/\(∀ d,bn d=true->iq t1.ctx d=(iq t.ctx d || decide (d∈p.map (·.dot))))/\t1.K.length=t.K.length+p.length:=by
 induction hM with
 | nil=>exact fun r _ hN _ _=>⟨rfl,rfl,hN,fun d _=>by simp,rfl⟩
 | snoc h2 hap ih =>
   rename_i p s1 s2 n f e;intro r hs hN hl hok;rw [List.append_assoc] at hs hN hl hok;obtain ⟨rfl,rfl,hN1,hh,hk⟩:=ih (e :: r) hs hN hl hok;have hse:Dh (e :: r):=(List.pairwise_append.1 hs).2.1;obtain ⟨UE,XO⟩:=List.pairwise_cons.1 hse;have heo:dm e=true:=hok e (by simp);have hdo:=(fH heo).1;have hq:fC s1.ctx e.dot.a+1=e.dot.seq:=by
    rcases hN1.pred e List.mem_cons_self with h | ⟨y,hy,hyd⟩
    ·exact h
    ·exfalso
     have hlt:cu y.dot e.dot=true:=by rw [hyd];exact OJ (a:=e.dot.a) (m:=e.dot.seq - 1) (n:=e.dot.seq) (by omega)
     rcases List.mem_cons.1 hy with rfl | hy
     ·rw [fO] at hlt;cases hlt
     ·have:=iL hlt (UE y hy)
      rw [fO] at this
      cases this
   have UY:jI s1 e=true:=by
    unfold jI;have hlen:s1.K.length<2048:=by
        rw [hk];simp only [av,List.length_cons] at hl;omega
    rw [heo,hN1.new e List.mem_cons_self,aR hq,aR hlen];rfl
   rw [if_pos UY] at hap;obtain ⟨a,c,hkp⟩:=hap.kept;have hh2:∀ d,bn d=true->iq s2.ctx d=(iq s1.ctx d || decide (d=e.dot)):=fun d hd=>by rw [hap.ctx,xw hd hq]
   refine ⟨by rw [if_pos UY];simp,by rw [if_pos rfl,QW UY],⟨fun x hx=>?_,fun x hx=>?_⟩,fun d hd=>?_,by rw [hkp.length_eq,List.length_cons,hk];simp;omega⟩
   ·have hxo:=(fH (hok x (by simp [hx]))).1
    rw [hh2 _ hxo,hN1.new x (List.mem_cons_of_mem _ hx),Bool.false_or];exact aM fun e2=>by have:=UE x hx;rw [e2,fO] at this;cases this
   ·rw [hap.ctx,Cc]
    rcases hN1.pred x (List.mem_cons_of_mem _ hx) with h | ⟨y,hy,hyd⟩
    ·by_cases hxa:x.dot.a=e.dot.a
     ·exfalso
      rw [hxa] at h;have e3:x.dot=e.dot:=by
           have:x.dot.seq=e.dot.seq:=by omega
           cases hx9:x.dot;cases he9:e.dot;simp_all
      have:=UE x hx;rw [e3,fO] at this
      cases this
     ·rw [if_neg hxa];exact bb h
    ·rcases List.mem_cons.1 hy with rfl | hy
     ·rw [hyd,if_pos rfl]
      exact bb (by show x.dot.seq - 1+1=_;omega)
     ·exact bd ⟨y,hy,hyd⟩
   ·rw [hh2 d hd,hh d hd]
    simp [Bool.or_assoc,List.mem_append]
/-! ### 17.Covers -/
/-! ### 22.Of -/
end Go.Proofs.YthphepeniaemoaaGreat
