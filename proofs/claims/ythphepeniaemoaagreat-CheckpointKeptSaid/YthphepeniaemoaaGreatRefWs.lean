/- A map's winners, plainly. Conditions: none. -/
import Derived.Test.YthphepeniaemoaaGreatCanA
import Derived.Test.YthphepeniaemoaaGreatWinners
set_option linter.unusedSimpArgs false
set_option linter.unusedVariables false
set_option linter.unnecessarySimpa false
set_option maxHeartbeats 16000000
set_option maxRecDepth 100000
open Go.Proofs.Tryz
namespace Go.Proofs.YthphepeniaemoaaGreat
open Go.RowKit
def zB (l:List Ev):Prop:=l.Pairwise fun x y=>fU x.key y.key=true
theorem NP {l m:List Ev} (h:zB l) (k:zB m) (e:∀ x,x∈l↔x∈m):l=m:=zU (lt:=fun x y:Ev=>fU x.key y.key) (fun x=>wJ x.key) (fun _ _ _=>oK) h k e
/-- the winners of a map, by their keys -/
structure WinsOf (s:MS) (L:List Ev):Prop where
 srt:zB L
 mem:∀ e,e∈L↔e∈fH s/\(fQ (keyOfS s e.key)).1=e
theorem WinsOf.ext {s:MS} {l m:List Ev} (h:WinsOf s l) (k:WinsOf s m):l=m :=
 NP h.srt k.srt fun e=>(h.mem e).trans (k.mem e).symm
theorem uw:∀ (l:List Ev) (x:Ev),l.foldl fB x=x\/l.foldl fB x∈l
 | [],x=>a8 rfl
 | e :: l,x=>by
   rw [List.foldl_cons];rcases uw l (fB x e) with h | h
   ·rw [h]
    unfold fB;split
    ·exact a8 rfl
    ·exact ba List.mem_cons_self
   ·exact ba (List.mem_cons_of_mem _ h)
theorem xK {l:List Ev} (h:l≠[]):(fQ l).1∈l:=by
 cases l with
 | nil=>exact absurd rfl h
 | cons x r =>
   show r.foldl fB x∈x :: r;rcases uw r x with h | h
   ·rw [h];exact List.mem_cons_self
   ·exact List.mem_cons_of_mem _ h
/-- the winners that the map tells -/
theorem GK {w:World} {m:Nat} {b:MB} {s:MS} (hm:MpIn w m b s) (hi:MInv s) (hnd:(s.K.map (·.1.dot)).Nodup) {ts:List Key} (hp:ts.Perm (s.A.map (·.1))) (hs:ts.Pairwise fun x y=>fU x y=true) :
 WinsOf s (ts.map fun k=>(fQ (keyOfS s k)).1):=by
 have hkey:∀ k∈ts,(fQ (keyOfS s k)).1∈keyOfS s k:=fun k hk=>by
  obtain ⟨p,hpA,rfl⟩:=List.mem_map.1 (hp.mem_iff.1 hk);refine xK (fun e=>?_);have h1:=hm.some p hpA;have h2:=congrArg List.length e;unfold keyOfS at h2;rw [List.length_map,List.length_nil] at h2;have h3:=List.length_eq_zero_iff.1 h2;obtain ⟨d,hd⟩:=List.exists_mem_of_ne_nil _ h1;have:=cu.2 hd;rw [h3] at this
  cases this
 have hk2:∀ k∈ts,(fQ (keyOfS s k)).1.key=k:=fun k hk=>((nU hi hnd k).1 (hkey k hk)).2.2.2;refine ⟨List.pairwise_map.2 (hs.imp_of_mem fun {a b} ha hb h=>by rw [hk2 a ha,hk2 b hb];exact h),fun e=>?_⟩;rw [List.mem_map,mg hi hnd];constructor
 ·rintro ⟨k,hk,rfl⟩
  obtain ⟨h1,h2,h3,h4⟩:=(nU hi hnd k).1 (hkey k hk);exact ⟨⟨h1,h2,h3⟩,by rw [hk2 k hk]⟩
 ·rintro ⟨⟨⟨x,hx,rfl⟩,h2,h3⟩,h4⟩
  obtain ⟨n,hn⟩:=hm.keys (x.1.key,x.1.dot) ((hi.pairs _ _).2 ⟨x,hx,h2,rfl,rfl,h3⟩);exact ⟨x.1.key,hp.mem_iff.2 (List.mem_map.2 ⟨_,hn,rfl⟩),h4⟩
/-! ### the reference's -/
def iZ (l:List EvIt) (k:Key):Nat:=(l.takeWhile fun x=>fU x.1.key k).length
theorem LP {l:List EvIt} {d:Key} {k:Nat} (h:k<l.length) (hp:fU l[k].1.key d=true):iZ (l.drop k) d=iZ (l.drop (k+1)) d+1:=by
 unfold iZ
 exact z117
theorem PG {l:List EvIt} {d:Key} {k:Nat} (h:k<l.length) (hp:fU l[k].1.key d=false):iZ (l.drop k) d=0:=by
 unfold iZ
 exact z107
def mQ (l:List EvIt) (x:EvIt):List EvIt:=l.take (iZ l x.1.key)++x :: l.drop (iZ l x.1.key)
/-- one event more, by its key -/
def rF (e:Ev):List Ev->List Ev
 | []=>[e]
 | x :: l=>if fU x.key e.key=true then x :: rF e l else e :: x :: l
theorem CQ (x:EvIt):∀ l:List EvIt,evsOf (mQ l x)=rF x.1 (evsOf l)
 | []=>rfl
 | y :: l=>by
   have ih:=CQ x l;show evsOf (mQ (y :: l) x)=rF x.1 (y.1 :: evsOf l)
   cases hy:fU y.1.key x.1.key with
   | true =>
     have e:iZ (y :: l) x.1.key=iZ l x.1.key+1:=by unfold iZ;rw [List.takeWhile_cons];simp [hy]
     unfold rF;rw [if_pos hy,<- ih];unfold mQ;rw [e];simp [evsOf]
   | false =>
     have e:iZ (y :: l) x.1.key=0:=by unfold iZ;rw [List.takeWhile_cons];simp [hy]
     unfold rF mQ;rw [if_neg (by rw [hy];decide),e];rfl
theorem yj (l:List EvIt) (x:EvIt):(mQ l x).length=l.length+1:=by
 have h:iZ l x.1.key<=l.length:=List.Sublist.length_le (List.takeWhile_sublist _);unfold mQ;rw [ar,List.length_cons,List.length_take,List.length_drop];omega
theorem OQ {l:List EvIt} {x y:EvIt} (h:y∈mQ l x):y=x\/y∈l:=by
 unfold mQ at h
 exact z118
theorem BU {e:Ev}:∀ {l:List Ev} {x:Ev},x∈rF e l↔x=e\/x∈l
 | [],x=>by simp [rF]
 | y :: l,x=>by
   unfold rF;split
   ·rw [List.mem_cons,BU,List.mem_cons]
    constructor
    ·exact z56
    ·exact z56
   ·rw [List.mem_cons]
theorem Iw {e:Ev}:∀ {l:List Ev},zB l->(∀ x∈l,x.key≠e.key)->zB (rF e l)
 | [],_,_=>by simp [rF,zB]
 | y :: l,h,hn=>by
   obtain ⟨h1,h2⟩:=List.pairwise_cons.1 h;unfold rF;split
   ·rename_i hlt
    refine List.pairwise_cons.2 ⟨fun x hx=>?_,Iw h2 fun x hx=>hn x (List.mem_cons_of_mem _ hx)⟩;rcases BU.1 hx with rfl | hx
    ·exact hlt
    ·exact h1 x hx
   ·rename_i hlt
    have hlt2:fU e.key y.key=true:=rC (hn y List.mem_cons_self) (by simpa using hlt);refine List.pairwise_cons.2 ⟨fun x hx=>?_,h⟩;rcases List.mem_cons.1 hx with rfl | hx
    ·exact hlt2
    ·exact oK hlt2 (h1 x hx)
/-- one round of the reference's Winners: 'f' tells a key's winner -/
def jl (f:Key->Ev) (out:List Ev) (x:Ev):List Ev:=if (f x.key).dot=x.dot then rF (f x.key) out else out
theorem JZ (f:Key->Ev) (out:List Ev) (x:Ev):(jl f out x).length<=out.length+1:=by
 unfold jl;split
 ·have:∀ l:List Ev,(rF (f x.key) l).length=l.length+1:=by
   intro l;induction l with
   | nil=>rfl
   | cons y l ih=>unfold rF;split <;> simp [ih]
  rw [this];exact aq _
 ·omega
theorem AQ {s:MS} (hi:MInv s) (hnd:(s.K.map (·.1.dot)).Nodup):WinsOf s ((fH s).foldl (jl fun k=>(fQ (keyOfS s k)).1) []):=by
 have hm:∀ d∈s.pairs.map (·.2),∃ x∈s.K,x.1.dot=d:=fun d hd=>by
  exact z73
 have hsrt:yM (fH s):=xe hnd (je _) fun d h=>hm d (cu.1 h);have key:∀ (l done:List Ev),done++l=fH s->∀ out:List Ev,zB out->(∀ e,e∈out↔e∈done/\(fQ (keyOfS s e.key)).1=e)->WinsOf s (l.foldl (jl fun k=>(fQ (keyOfS s k)).1) out):=by
  intro l;induction l with
  | nil =>
    intro done hd out h1 h2;rw [List.append_nil] at hd;subst hd;exact ⟨h1,h2⟩
  | cons x l ih =>
    intro done hd out h1 h2;rw [List.foldl_cons];refine ih (done++[x]) (by rw [List.append_assoc];exact hd) _ ?_ ?_;all_goals
        have hxa:x∈fH s:=by rw [<- hd];simp
        have hwe:(fQ (keyOfS s x.key)).1.dot=x.dot->(fQ (keyOfS s x.key)).1=x:=fun e=>by
         obtain ⟨⟨z,hz,rfl⟩,h4,h5⟩:=(mg hi hnd).1 hxa;have h6:keyOfS s z.1.key≠[]:=fun e9=>by
          have:=(nU hi hnd z.1.key).2 ⟨⟨z,hz,rfl⟩,h4,h5,rfl⟩;rw [e9] at this
          cases this
         obtain ⟨⟨y,hy,hye⟩,_⟩:=(nU hi hnd _).1 (xK h6);rw [<- hye] at e ⊢;exact xN hnd hy hz e
        have hnx:x ∉ done:=fun h9=>by
         rw [<- hd] at hsrt;have:=(List.pairwise_append.1 hsrt).2.2 x h9 x List.mem_cons_self;rw [eP] at this
         cases this
    ·unfold jl
     split
     ·rename_i he
      show zB (rF (fQ (keyOfS s x.key)).1 out);rw [hwe he];refine Iw h1 fun y hy e9=>?_;obtain ⟨hy1,hy2⟩:=(h2 y).1 hy;rw [e9,hwe he] at hy2;subst hy2;exact hnx hy1
     ·exact h1
    ·intro e
     unfold jl;split
     ·rename_i he
      show e∈rF (fQ (keyOfS s x.key)).1 out↔_;rw [hwe he,BU,h2 e,List.mem_append,List.mem_singleton];constructor
      ·rintro (rfl | ⟨h3,h4⟩)
       ·exact ⟨ba rfl,hwe he⟩
       ·exact ⟨a8 h3,h4⟩
      ·rintro ⟨h3 | rfl,h4⟩
       ·exact ba ⟨h3,h4⟩
       ·exact a8 rfl
     ·rename_i he
      rw [h2 e,List.mem_append,List.mem_singleton];constructor
      ·rintro ⟨h3,h4⟩
       exact ⟨a8 h3,h4⟩
      ·rintro ⟨h3 | rfl,h4⟩
       ·exact ⟨h3,h4⟩
       ·exact absurd (show (fQ (keyOfS s e.key)).1.dot=e.dot by rw [h4]) he
 exact key (fH s) [] rfl [] List.Pairwise.nil (fun e=>by simp)
def rwF (L:List EvIt) (k:Key):Ev:=(fQ (evsOf (L.filter (yh k)))).1
theorem Uy {L:List EvIt} (h:∀ z∈L,∀ d∈z.1.over,bi d=true) (k:Key):∀ d∈(rwF L k).over,bi d=true:=by
 unfold rwF;by_cases h0:evsOf (L.filter (yh k))=[]
 ·rw [h0]
  intro d hd;exact absurd hd (by simp [fQ,ev0])
 ·obtain ⟨z,hz,e⟩:∃ z∈L.filter (yh k),z.1=(fQ (evsOf (L.filter (yh k)))).1:=List.mem_map.1 (xK h0)
  rw [<- e];exact h z (List.mem_filter.1 hz).1
theorem OI {w:World} {A off k:Nat} {e:Ev} {a:Option Addr} {c:Nat} (h:w.rangeAt A (off+k * 19) (ah e a c)):w.rangeAt A (off+k * 19+7) [.string e.key.name,.string e.key.domain,.string e.key.path]:=fun j v hj=>by
 match j,hj with
 | 0,hj=>exact h 7 v hj
 | 1,hj=>exact h 8 v hj
 | 2,hj=>exact h 9 v hj
 | j+3,hj=>simp at hj
theorem RMAt.range {w:World} {R:Nat} {x:RMIt} (h:RMAt w R x):w.rangeAt R 0 (zW x):=fun j v hj=>by
 rw [av];simp only [RMAt] at h;simp only [World.cell?,h,P8];simpa using hj
theorem I5 {w:World} {R:Nat} {e:Ev} {a:Option Addr} {c:Nat} {t:TypeId} {f:Nat×Nat} (h:w.heap[R]?=some (.cells (ah e a c).toArray t f)):w.rangeAt R 0 (ah e a c):=fun j v hj=>by
 rw [av];simp only [World.cell?,h];simpa using hj
def Xr (L:List EvIt) (w:World) (e:Ending) (w':World):Prop:=∃ a d c,e=.returned (.slice a d.length c)/\EvsIn w' a d/\evsOf d=(evsOf L).foldl (jl (rwF L)) []/\Below w.heap.size w w'
theorem z115 {p : Prop} (h : p := by exact ⟨k + 1, a2, mQ O (r, aw, cw), c2, by go_num, HLT.out, rfl, HZ.out.1, HZ.out.2.1, by rw [yj]; exact Nat.succ_le_succ HOL.out, by rw [CQ]; exact HS.out, HZ.out.2.2⟩) : p := h
theorem y15 {p q : Prop} (k : q) (h : PLift q -> p := by
 intro kk
 refine aH (by kernel_rfl) (by kernel_rfl) (fun WA hWA => ?_)
 have hbA : Below X.heap.size X WA := by rw [hWA.out]; go_grown
 have pd0 : ∀ i : After WA, i.w.cell? ⟨Q, 0, none⟩ = some (.int .i64 r.dot.a.dev) := fun i => i.cell (kept hbA d0)
 have pd1 : ∀ i : After WA, i.w.cell? ⟨Q, 1, none⟩ = some (.int .i64 r.dot.a.inc) := fun i => i.cell (kept hbA d1)
 have pd2 : ∀ i : After WA, i.w.cell? ⟨Q, 2, none⟩ = some (.int .i64 r.dot.seq) := fun i => i.cell (kept hbA d2)
 have pe0 : ∀ i : After WA, i.w.cell? ⟨A, off + k * 19, none⟩ = some (.int .i64 e.dot.a.dev) := fun i => i.cell (kept hbA e0)
 have pe1 : ∀ i : After WA, i.w.cell? ⟨A, off + k * 19 + 1, none⟩ = some (.int .i64 e.dot.a.inc) := fun i => i.cell (kept hbA e1)
 have pe2 : ∀ i : After WA, i.w.cell? ⟨A, off + k * 19 + 2, none⟩ = some (.int .i64 e.dot.seq) := fun i => i.cell (kept hbA e2)
 clear hWA
 iterate 8 go_big_quiet_step (fail)
 refine wpQuiet_nil ?_
 revert WA hbA pd0 pd1 pd2 pe0 pe1 pe2
 exact kk.down) : p := h ⟨k⟩
theorem AU (x:RMIt) (w:World) (hK:x.K.length<=4096) (hdl:x.dead.length<=1048576) (hI:RMIn w x) (hok:∀ z∈x.K,∀ d∈z.1.over,bi d=true) :
 Calls prog 101 #[pg x] w (Xr (x.K.filter (iP x.dead)) w):=by
 obtain ⟨i0,hi,hz0,hz1,hz2⟩:=info_parts Tryz.infoEv;have HAl:=aa (fun (X:World) (h:RMIn X x)=>qp x X hK hdl h);have HWn:=aa (fun (ky:Key) (X:World) (h:RMIn X x)=>DK x ky X hK hdl h hok);have HLs:=aa (fun (a b:Key) (X:World)=>FP a b X);have X7:Hid (∀ z∈x.K.filter (iP x.dead),∀ d∈z.1.over,bi d=true):=fun z hz=>hok z (List.mem_filter.1 hz).1;have hLK:(x.K.filter (iP x.dead)).length<=4096:=Nat.le_trans (List.length_filter_le _ _) hK;generalize x.K.filter (iP x.dead)=L at *;clear hok hK hdl;go_enter func101,ntmps101;go_upto_region 1 with fail
 refine aN (fun V hV=>?_);have hb0:Below w.heap.size w V:=by rw [hV.out];go_grown
 have hAt:RMAt V w.heap.size x:=by rw [hV.out];exact bP _ _
 have hI0:=hI.keep hb0;clear hV hI;go_upto_region 2 with fail
 refine aN (fun V1 hV1=>?_);have hbM:Below V.heap.size V V1:=by rw [hV1.out];exact (bb _ _).alloc (aq _) _
 have hI1:=hI0.keep hbM;have hAt1:=hAt.kept hbM;obtain ⟨x0,x1,x2⟩:=hAt1.cells;have U9:Below w.heap.size w V1:=hb0.trans (hbM.mono hb0.size);obtain ⟨B0,hB0⟩:∃ B0,B0=V.heap.size:=⟨_,rfl⟩;rw [<- hB0];clear hV1 hI0 hAt hb0 hbM hB0;go_wp2_with (go_at_call 99;(with_reducible refine (HAl.out _ hI1).mono ?_);rintro v W0 ⟨aA,cA,rfl,hE0,_,hb1⟩)
 have hI2:=hI1.keep hb1;have hAt2:=hAt1.kept hb1;have hbW0:Below w.heap.size w W0:=U9.trans (hb1.mono U9.size);clear x0 x1 x2 hI1 hAt1 U9 hb1 HAl;go_loopw [3,5] (fun u i wr=>∃ (k:Nat) (aO:Option Addr) (O:List EvIt) (cO:Nat),i=.int .i64 k/\k<=L.length/\u=.slice aO O.length cO/\EvsIn wr aO O/\O.length<=cO/\O.length<=k/\evsOf O=((evsOf L).take k).foldl (jl (rwF L)) []/\Below W0.heap.size W0 wr) (fun _ i _=>L.length - (intOf i).toNat)
 case atStart=>exact ⟨0,_,[],_,rfl,Nat.zero_le _,rfl,⟨a8 rfl,fun z hz=>(nomatch hz)⟩,Nat.zero_le _,aq _,rfl,bb _ _⟩
 case round =>
  obtain ⟨k,aO,O,cO,rfl,hk,rfl,hEO,hOC,hOL,hOV,hbr⟩:=hrel;have HOV:=aa hOV;have HOC:=aa hOC;have HOL:=aa hOL;clear hOV hOC;by_cases hlt:k<L.length
  ·obtain ⟨A,off,rfl,hra,_⟩:=(hE0.kept hbr).at hlt
   have r1:=hra k hlt;have HT:Hid ((evsOf L).take (k+1)=(evsOf L).take k++[L[k].1]):=by
        exact z46
   have HLT:=aa hlt;have hkl:k<=4096:=by omega
   generalize L[k]=z at *;obtain ⟨e,ax,cx⟩:=z;simp only [kT] at r1;simp only at HT;have HOK:=aa (Uy X7.out e.key);have hW0:=fun (X:World) (h:RMIn X x)=>HWn.out e.key X h;obtain ⟨rw0,UO⟩:∃ p,p=fQ (evsOf (L.filter (yh e.key))):=⟨_,rfl⟩;have hHR:rwF L e.key=rw0.1:=by rw [UO];rfl
   rw [hHR] at HOK;rw [<- UO] at hW0;have HR:=aa hHR;obtain ⟨r,rb⟩:=rw0;simp only at HOK HR;have HW:=aa hW0;clear UO hHR hW0 hra;go_upto_region 6 with fail
   refine aN (fun V hV=>?_);have hbV:Below wr.heap.size wr V.drew:=by rw [hV.out];go_grown
   have vM:=((hAt2.kept hbr).kept hbV).range;have vK:=ai (OI r1) hbV;have vR:=ai r1 hbV;have vI:=(hI2.keep hbr).keep hbV;have vO:=hEO.kept hbV;have O1:Below W0.heap.size W0 V.drew:=hbr.trans (hbV.mono hbr.size);clear hV hbV hEO hbr r1;refine wp_region_noPanic ?_;refine wp_region_held_drew (S:=fun W'=>Below V.drew.heap.size V.drew W') (by kernel_rfl) (bb _ _) (fun hHeld=>?_);refine tH 0 19 rfl (yieldsIf_load_mid (by rfl) 46 _ rfl w.heap.size 0 rfl (zW x) _ (fun X h=>ai vM h) underlying46 rfl (by kernel_rfl)) ?_;try simp only [pS]
   refine tH (v:=?_) 1 20 rfl (a8 ⟨by rfl,?_⟩) ?_
   case refine_2 => exact z61
   try simp only [pS]
   refine tH (v:=?_) 2 21 rfl (a8 ⟨by rfl,?_⟩) ?_
   case refine_2 => exact z61
   try simp only [pS]
   refine tH (v:=?_) 3 22 rfl (a8 ⟨by rfl,?_⟩) ?_
   case refine_2 => exact z61
   try simp only [pS]
   refine tH (v:=?_) 4 23 rfl (a8 ⟨by rfl,?_⟩) ?_
   case refine_2 => exact z61
   try simp only [pS]
   refine tH 5 24 rfl (yieldsIf_load_mid (by rfl) 78 _ rfl A (off+k * 19+7) rfl [.string e.key.name,.string e.key.domain,.string e.key.path] _ (fun X h=>ai vK h) underlying78 rfl (by kernel_rfl)) ?_;try simp only [pS]
   refine wpAnyH_ready (rs:=[6,10]) (by kernel_rfl) (by simp) ?_;refine AllReadyH.cons (o:=⟨some 25,_,_,_,_,_⟩) rfl (fun K hK=>?_) (AllReadyH.cons (o:=⟨some 6,_,_,_,_,_⟩) rfl (fun K hK=>?_) AllReadyH.nil);focus
        go_simp;go_at_call 147;(with_reducible refine (HW.out _ (vI.keep hHeld)).mono ?_)
        rintro v w5 ⟨aw,cw,rfl,hdw,hb5⟩;go_simp;have hNext:=hHeld.trans (hb5.mono hHeld.size);refine hK.out _ _ hNext (fun ag=>?_);clear hK K hHeld;have hHeld:=hNext;clear ag hNext;try simp only [pS]
        refine tH (v:=?_) 7 18 rfl (a8 ⟨by rfl,?_⟩) ?_
        case refine_2 => exact z61
        try simp only [pS]
        refine tH (v:=?_) 8 26 rfl (a8 ⟨by rfl,?_⟩) ?_
        case refine_2 => exact z61
        try simp only [pS]
        refine tH (v:=?_) 9 27 rfl (a8 ⟨by rfl,?_⟩) ?_
        case refine_2 => exact z61
        try simp only [pS]
        refine rH 10 6 rfl fun K hK=>?_;have VR:=hHeld.size;go_simp;have hNext:=hHeld.alloc hHeld.size (.cells #[.int .i64 0,.int .i64 0,.int .i64 0,.int .i64 0,.int .i64 0,.int .i64 0,.int .i64 0,.string ⟨#[]⟩,.string ⟨#[]⟩,.string ⟨#[]⟩,.string ⟨#[]⟩,.bool false,.bool false,.bool false,.bool false,.int .i64 0,.int .i64 0,.int .i64 0,.slice none 0 0] 82);refine hK.out _ _ hNext (fun ag=>?_);clear hK K hHeld;have hHeld:=hNext;clear ag hNext;try simp only [pS]
        refine wpAnyH_ready (rs:=[11]) (by kernel_rfl) (by simp) ?_;refine AllReadyH.cons (o:=⟨none,_,_,_,_,_⟩) rfl (fun K hK=>?_) AllReadyH.nil;have hq0:(w5.alloc (.cells #[.int .i64 0,.int .i64 0,.int .i64 0,.int .i64 0,.int .i64 0,.int .i64 0,.int .i64 0,.string ⟨#[]⟩,.string ⟨#[]⟩,.string ⟨#[]⟩,.string ⟨#[]⟩,.bool false,.bool false,.bool false,.bool false,.int .i64 0,.int .i64 0,.int .i64 0,.slice none 0 0] 82)).heap[w5.heap.size]?=some (.cells (ah ev0 none 0).toArray 82 (0,0)):=bP _ _;refine fK (by rfl) 82 _ _ rfl (w5.heap.size) (ah r aw cw).toArray rfl rfl 82 _ hq0 (by kernel_rfl) rfl (by kernel_rfl) ?_;have hNext:Below V.drew.heap.size V.drew ((w5.alloc (.cells #[.int .i64 0,.int .i64 0,.int .i64 0,.int .i64 0,.int .i64 0,.int .i64 0,.int .i64 0,.string ⟨#[]⟩,.string ⟨#[]⟩,.string ⟨#[]⟩,.string ⟨#[]⟩,.bool false,.bool false,.bool false,.bool false,.int .i64 0,.int .i64 0,.int .i64 0,.slice none 0 0] 82)).setRow (w5.heap.size) (ah r aw cw).toArray):=below_setRow hHeld (by omega:V.drew.heap.size<=w5.heap.size) (ah r aw cw).toArray;refine hK.out _ _ hNext (fun ag=>?_);clear hK K hHeld;have hHeld:=hNext;clear ag hNext;try simp only [pS]
        refine tH (v:=?_) 12 7 rfl (a8 ⟨by rfl,?_⟩) ?_
        case refine_2 => exact z61
        try simp only [pS]
        refine wpAnyH_done (by kernel_rfl) ?_ _;refine NoPanic.normal ?_;obtain ⟨X,hX⟩:∃ X,X=(w5.alloc (.cells #[.int .i64 0,.int .i64 0,.int .i64 0,.int .i64 0,.int .i64 0,.int .i64 0,.int .i64 0,.string ⟨#[]⟩,.string ⟨#[]⟩,.string ⟨#[]⟩,.string ⟨#[]⟩,.bool false,.bool false,.bool false,.bool false,.int .i64 0,.int .i64 0,.int .i64 0,.slice none 0 0] 82)).setRow (w5.heap.size) (ah r aw cw).toArray:=⟨_,rfl⟩;rw [<- hX] at hHeld ⊢;have hqX:X.heap[w5.heap.size]?=some (.cells (ah r aw cw).toArray 82 (0,0)):=by rw [hX];exact setRow_heap _ _ _ _ _ _ hq0
        have hdX:DotsIn X aw r.over:=by
         rw [hX];exact DotsIn.not0 (hdw.kept ((bb _ _).alloc (aq _) _)) HOK.out hq0 (fun k9 hk9=>aX _ _ _ _ (fun e9=>hk9 e9.symm))
        generalize hqn:w5.heap.size=Q at *;clear hX hq0 hqn hdw hb5;have hE:=I5 hqX;have hbX:Below W0.heap.size W0 X:=O1.trans (hHeld.mono O1.size);have QZ:=vO.kept hHeld;have rX:=ai vR hHeld;clear vM vK vR vI vO hHeld O1 hqX;have d0:=hE 0 _ rfl;have d1:=hE 1 _ rfl;have d2:=hE 2 _ rfl;have d7:=hE 7 _ rfl;have d8:=hE 8 _ rfl;have d9:=hE 9 _ rfl;have e0:=rX 0 _ rfl;have e1:=rX 1 _ rfl;have e2:=rX 2 _ rfl;simp only [av] at d0 d1 d2 d7 d8 d9;simp only [Nat.add_zero] at e0;have hEq:=fun (W:World)=>EQ W 9997 r.dot e.dot;have hm:=lw;clear rX;clear VR
   rotate_left;focus
        go_simp;have hNext:=hHeld.alloc hHeld.size (.cells #[.int .i64 0,.int .i64 0,.int .i64 0,.int .i64 0,.int .i64 0,.int .i64 0,.int .i64 0,.string ⟨#[]⟩,.string ⟨#[]⟩,.string ⟨#[]⟩,.string ⟨#[]⟩,.bool false,.bool false,.bool false,.bool false,.int .i64 0,.int .i64 0,.int .i64 0,.slice none 0 0] 82);refine hK.out _ _ hNext (fun ag=>?_);clear hK K hHeld;have hHeld:=hNext;clear ag hNext;try simp only [pS]
        replace hHeld:Below V.drew.heap.size V.drew (V.alloc (.cells #[.int .i64 0,.int .i64 0,.int .i64 0,.int .i64 0,.int .i64 0,.int .i64 0,.int .i64 0,.string ⟨#[]⟩,.string ⟨#[]⟩,.string ⟨#[]⟩,.string ⟨#[]⟩,.bool false,.bool false,.bool false,.bool false,.int .i64 0,.int .i64 0,.int .i64 0,.slice none 0 0] 82)).drew:=hHeld;refine rH 6 25 rfl fun K hK=>?_;go_simp;go_at_call 147;(with_reducible refine (HW.out _ (vI.keep hHeld)).mono ?_)
        rintro v w5 ⟨aw,cw,rfl,hdw,hb5⟩;go_simp;have hNext:=hHeld.trans (hb5.mono hHeld.size);refine hK.out _ _ hNext (fun ag=>?_);clear hK K hHeld;have hHeld:=hNext;clear ag hNext;try simp only [pS]
        refine tH (v:=?_) 7 18 rfl (a8 ⟨by rfl,?_⟩) ?_
        case refine_2 => exact z61
        try simp only [pS]
        refine tH (v:=?_) 8 26 rfl (a8 ⟨by rfl,?_⟩) ?_
        case refine_2 => exact z61
        try simp only [pS]
        refine tH (v:=?_) 9 27 rfl (a8 ⟨by rfl,?_⟩) ?_
        case refine_2 => exact z61
        try simp only [pS]
        refine wpAnyH_ready (rs:=[11]) (by kernel_rfl) (by simp) ?_;refine AllReadyH.cons (o:=⟨none,_,_,_,_,_⟩) rfl (fun K hK=>?_) AllReadyH.nil;have hq0:w5.heap[V.heap.size]?=some (.cells (ah ev0 none 0).toArray 82 (0,0)):=(hb5.block V.drew.heap.size (by show V.heap.size<(V.heap.push _).size;simp)).trans (bP V _);refine fK (by rfl) 82 _ _ rfl (V.heap.size) (ah r aw cw).toArray rfl rfl 82 _ hq0 (by kernel_rfl) rfl (by kernel_rfl) ?_;have hNext:Below V.drew.heap.size V.drew (w5.setRow (V.heap.size) (ah r aw cw).toArray):=below_setRow hHeld (aq _:V.drew.heap.size<=V.heap.size) (ah r aw cw).toArray;refine hK.out _ _ hNext (fun ag=>?_);clear hK K hHeld;have hHeld:=hNext;clear ag hNext;try simp only [pS]
        refine tH (v:=?_) 12 7 rfl (a8 ⟨by rfl,?_⟩) ?_
        case refine_2 => exact z61
        try simp only [pS]
        refine wpAnyH_done (by kernel_rfl) ?_ _;refine NoPanic.normal ?_;obtain ⟨X,hX⟩:∃ X,X=w5.setRow (V.heap.size) (ah r aw cw).toArray:=⟨_,rfl⟩;rw [<- hX] at hHeld ⊢;have hqX:X.heap[V.heap.size]?=some (.cells (ah r aw cw).toArray 82 (0,0)):=by rw [hX];exact setRow_heap _ _ _ _ _ _ hq0
        have hdX:DotsIn X aw r.over:=by
         rw [hX];exact DotsIn.not0 (hdw) HOK.out hq0 (fun k9 hk9=>aX _ _ _ _ (fun e9=>hk9 e9.symm))
        generalize hqn:V.heap.size=Q at *;clear hX hq0 hqn hdw hb5;have hE:=I5 hqX;have hbX:Below W0.heap.size W0 X:=O1.trans (hHeld.mono O1.size);have QZ:=vO.kept hHeld;have rX:=ai vR hHeld;clear vM vK vR vI vO hHeld O1 hqX;have d0:=hE 0 _ rfl;have d1:=hE 1 _ rfl;have d2:=hE 2 _ rfl;have d7:=hE 7 _ rfl;have d8:=hE 8 _ rfl;have d9:=hE 9 _ rfl;have e0:=rX 0 _ rfl;have e1:=rX 1 _ rfl;have e2:=rX 2 _ rfl;simp only [av] at d0 d1 d2 d7 d8 d9;simp only [Nat.add_zero] at e0;have hEq:=fun (W:World)=>EQ W 9997 r.dot e.dot;have hm:=lw;clear rX
   all_goals
        by_cases hde:r.dot=e.dot
        ·rw [aR hde] at hEq
         have HS:Hid (rF r (evsOf O)=((evsOf L).take (k+1)).foldl (jl (rwF L)) []):=by unfold Hid;rw [HT.out,List.foldl_append,<- HOV.out];show _=jl (rwF L) (evsOf O) e;unfold jl;rw [HR.out,if_pos hde]
         clear hde;go_upto_region 7 with fail
         refine y15 ?_
         intro WA hbA pd0 pd1 pd2 pe0 pe1 pe2
         rintro _ ⟨i,rfl⟩;have hiA:=i.h;generalize i.w=wp at hiA ⊢;have hbY:Below X.heap.size X wp:=below2 hbA hiA;clear hbA hiA pd0 pd1 pd2 pe0 pe1 pe2;have hEP:=ai hE hbY;have hdP:=hdX.kept hbY;have hOP:=QZ.kept hbY;replace hbX:=hbX.trans (hbY.mono hbX.size);clear hbY hE hdX QZ d0 d1 d2 d7 d8 d9 e0 e1 e2 hEq hm;have d7:=hEP 7 _ rfl;have d8:=hEP 8 _ rfl;have d9:=hEP 9 _ rfl;simp only [av] at d7 d8 d9;have HC:=aa hOP.cells;have HER:=aa hEP;have HD:Hid (∀ z∈mQ O (r,aw,cw),DotsIn wp z.2.1 z.1.over):=fun z hz=>by
          rcases OQ hz with rfl | hz
          ·exact hdP
          ·exact hOP.dots z hz
         have hzp:=hbX.size;have HBX:=aa hbX;clear hdP hEP hbX;go_wp2;obtain ⟨wo,rfl⟩:∃ wo:World,wo=wp:=⟨_,rfl⟩;go_loopw [8] (fun i wr=>∃ q:Nat,i=.int .i64 q/\q<=O.length/\iZ O r.key=q+iZ (O.drop q) r.key/\Below wo.heap.size wo wr) (fun i _=>O.length - (intOf i).toNat)
         case atStart=>exact ⟨0,rfl,Nat.zero_le _,by simp,bb _ _⟩
         case round =>
          obtain ⟨q,rfl,hq,hA0,hB⟩:=hrel;have HA:=aa hA0;have HQ:=aa hq;clear hA0;have c7:=kept hB d7;have c8:=kept hB d8;have c9:=kept hB d9;by_cases hqt:q<O.length
          ·obtain ⟨A2,of2,rfl,V7,_⟩:=(hOP.kept hB).at hqt
           have r2:=V7 q hqt;have HY:=aa (fun (h:fU O[q].1.key r.key=true)=>LP hqt h);have HN:=aa (fun (h:fU O[q].1.key r.key=false)=>PG hqt h);have HL1:=fun (X:World)=>HLs.out O[q].1.key r.key X;have HQT:=aa hqt;have hql:q<=4096:=by omega
           generalize O[q]=y2 at *;obtain ⟨y,ay,cy⟩:=y2;simp only [kT] at r2;simp only at HY HN HL1;have f7:=r2 7 _ rfl;have f8:=r2 8 _ rfl;have f9:=r2 9 _ rfl;clear V7 r2
           cases hly:fU y.key r.key with
           | true =>
             rw [hly] at HL1;have HA2:Hid (iZ O r.key=q+1+iZ (O.drop (q+1)) r.key):=by unfold Hid;rw [HA.out,HY.out hly];omega
             clear hly;go_upto_region 9 with fail
             refine aH (by kernel_rfl) (by kernel_rfl) (fun WA hWA=>?_);have hbA:Below wr.heap.size wr WA:=by rw [hWA.out];go_grown
             have pc7:∀ i:After WA,i.w.cell? ⟨Q,7,none⟩=some (.string r.key.name):=fun i=>i.cell (kept hbA c7);have pc8:∀ i:After WA,i.w.cell? ⟨Q,8,none⟩=some (.string r.key.domain):=fun i=>i.cell (kept hbA c8);have pc9:∀ i:After WA,i.w.cell? ⟨Q,9,none⟩=some (.string r.key.path):=fun i=>i.cell (kept hbA c9);have pf7:∀ i:After WA,i.w.cell? ⟨A2,of2+q * 19+7,none⟩=some (.string y.key.name):=fun i=>i.cell (kept hbA f7);have pf8:∀ i:After WA,i.w.cell? ⟨A2,of2+q * 19+8,none⟩=some (.string y.key.domain):=fun i=>i.cell (kept hbA f8);have pf9:∀ i:After WA,i.w.cell? ⟨A2,of2+q * 19+9,none⟩=some (.string y.key.path):=fun i=>i.cell (kept hbA f9);clear hWA;iterate 12 go_big_quiet_step (fail)
             go_big_quiet_step (exact Calls.after (HL1 _))
             go_big_quiet_step (fail)
             refine wpQuiet_nil ?_;rintro _ ⟨i,rfl⟩;have hiA:=i.h;generalize i.w=wq at hiA ⊢;have hbY:Below wr.heap.size wr wq:=below2 hbA hiA;clear hbA hiA pc7 pc8 pc9 pf7 pf8 pf9;have HB2:=aa (hB.trans (hbY.mono hB.size));clear hB hbY;go_wp2;go_roundw
             case rel=>exact ⟨q+1,by go_num,HQT.out,HA2.out,HB2.out⟩
             case measure=>have:=HQT.out;simp [intOf] <;> omega
           | false =>
             rw [hly] at HL1;have HI:Hid (iZ O r.key=q):=by unfold Hid;rw [HA.out,HN.out hly];omega
             clear hly;go_upto_region 9 with fail
             refine aH (by kernel_rfl) (by kernel_rfl) (fun WA hWA=>?_);have hbA:Below wr.heap.size wr WA:=by rw [hWA.out];go_grown
             have pc7:∀ i:After WA,i.w.cell? ⟨Q,7,none⟩=some (.string r.key.name):=fun i=>i.cell (kept hbA c7);have pc8:∀ i:After WA,i.w.cell? ⟨Q,8,none⟩=some (.string r.key.domain):=fun i=>i.cell (kept hbA c8);have pc9:∀ i:After WA,i.w.cell? ⟨Q,9,none⟩=some (.string r.key.path):=fun i=>i.cell (kept hbA c9);have pf7:∀ i:After WA,i.w.cell? ⟨A2,of2+q * 19+7,none⟩=some (.string y.key.name):=fun i=>i.cell (kept hbA f7);have pf8:∀ i:After WA,i.w.cell? ⟨A2,of2+q * 19+8,none⟩=some (.string y.key.domain):=fun i=>i.cell (kept hbA f8);have pf9:∀ i:After WA,i.w.cell? ⟨A2,of2+q * 19+9,none⟩=some (.string y.key.path):=fun i=>i.cell (kept hbA f9);clear hWA;iterate 12 go_big_quiet_step (fail)
             go_big_quiet_step (exact Calls.after (HL1 _))
             go_big_quiet_step (fail)
             refine wpQuiet_nil ?_;rintro _ ⟨i,rfl⟩;have hiA:=i.h;generalize i.w=wq at hiA ⊢;have hbY:Below wr.heap.size wr wq:=below2 hbA hiA;clear hbA hiA pc7 pc8 pc9 pf7 pf8 pf9;replace hB:=hB.trans (hbY.mono hB.size);clear hbY c7 c8 c9;go_upto_region 11 with fail
             refine aN (fun W hW=>?_);have hbW:Below wq.heap.size wq W.drew:=by rw [hW.out];go_grown
             have hBW:Below wo.heap.size wo W.drew:=hB.trans (hbW.mono hB.size);have mJ:=HC.out.kept hBW;have hzW:=hBW.size;have hq:=HQ.out;have hol:=HOL.out;have hcut:∀ X,(Instr.sliceAt 33 (.slice (some ⟨A2,of2,none⟩) O.length cO) none (some (.int .i64 (q:Nat))) none).run prog X=.ok (.slice (some ⟨A2,of2,none⟩) q cO) X:=fun X=>lu X _ _ i0 (some ⟨A2,of2,none⟩) O.length cO .i64 q underlying33 hi (by have:=HOC.out;omega);have mX:∀ X,(Instr.sliceAt 33 (.slice (some ⟨A2,of2,none⟩) O.length cO) (some (.int .i64 (q:Nat))) none none).run prog X=.ok (.slice (l9 (some ⟨A2,of2,none⟩) cO q 19) (O.length - q) (cO - q)) X:=fun X=>jY X _ _ i0 (some ⟨A2,of2,none⟩) O.length cO .i64 q 19 underlying33 hi hz1 (by omega);have hR1:∀ X,Below W.drew.heap.size W.drew X->CellsIn X (some ⟨A2,of2,none⟩) (aJ (O.take q)):=fun X h=>by rw [<- tN];exact (mJ.kept h).take _
             have hR2:∀ X,Below W.drew.heap.size W.drew X->CellsIn X (l9 (some ⟨A2,of2,none⟩) cO q 19) (aJ (O.drop q)):=fun X h=>by rw [<- tV];exact (mJ.kept h).cut (eU O) HOC.out q
             have l1:(aJ (O.take q)).length=q * 19:=by rw [eU,List.length_take,Nat.min_eq_left hq]
             have l2:(aJ (O.drop q)).length=(O.length - q) * 19:=by rw [eU,List.length_drop]
             have hF:∀ X,Below W.drew.heap.size W.drew X->X.rangeAt Q 0 (ah r aw cw):=fun X h=>ai (ai HER.out hBW) h;clear hW;refine wp_region_noPanic ?_;refine wp_region_held_drew (S:=fun W'=>Below W.drew.heap.size W.drew W') (by kernel_rfl) (bb _ _) (fun hHeld=>?_);refine tH (v:=?_) 1 53 rfl (a8 ⟨by rfl,?_⟩) ?_
             case refine_2 => exact z61
             try simp only [pS]
             refine tH (v:=?_) 2 54 rfl (a8 ⟨by rfl,?_⟩) ?_
             case refine_2 => exact z61
             try simp only [pS]
             refine tH 3 55 rfl (a8 ⟨by rfl,fun W hSW=>gq _ _ _ _ _ rfl _ (hcut W)⟩) ?_;try simp only [pS]
             refine tH 5 57 rfl (yieldsIf_load_mid (by rfl) 82 _ rfl Q 0 rfl (ah r aw cw) _ (fun X h=>hF X h) underlying82 rfl (by kernel_rfl)) ?_;try simp only [pS]
             refine tH (v:=?_) 8 60 rfl (a8 ⟨by rfl,?_⟩) ?_
             case refine_2 => exact z61
             try simp only [pS]
             refine tH (v:=?_) 9 61 rfl (a8 ⟨by rfl,?_⟩) ?_
             case refine_2 => exact z61
             try simp only [pS]
             refine tH 10 62 rfl (a8 ⟨by rfl,fun W hSW=>gq _ _ _ _ _ rfl _ (mX W)⟩) ?_;try simp only [pS]
             refine wpAnyH_ready (rs:=[0,6]) (by kernel_rfl) (by simp) ?_;refine AllReadyH.cons (o:=⟨some 52,_,_,_,_,_⟩) rfl (fun K hK=>?_) (AllReadyH.cons (o:=⟨some 58,_,_,_,_,_⟩) rfl (fun K hK=>?_) AllReadyH.nil);focus
              refine dh (by rfl) 33 82 rfl i0 _ 19 underlying33 hi hz0 hz1 (by decide) ?_;intro v0 X0 hown0 hbel0;refine hK.out _ _ ?_ (fun ag=>?_)
              ·exact z72
              clear hK K hHeld;have hHeld:=ag;clear ag;try simp only [pS]
              refine wpAnyH_ready (rs:=[4,6]) (by kernel_rfl) (by simp) ?_;refine AllReadyH.cons (o:=⟨some 56,_,_,_,_,_⟩) rfl (fun K hK=>?_) (AllReadyH.cons (o:=⟨some 58,_,_,_,_,_⟩) rfl (fun K hK=>?_) AllReadyH.nil);focus
               refine aj (by rfl) (.tmp 52) (.tmp 55) 33 rfl W.drew.heap.size 82 i0 _ 19 176 underlying33 hi hz0 hz1 hz2 rfl (by decide) _ 0 _ rfl hown0 (some ⟨A2,of2,none⟩) q cO (aJ (O.take q)) rfl l1 (hR1 _ hHeld) (gB _) (by first | omega | (unfold maxLen;omega)) (by first | omega | (unfold maxLen;omega)) hHeld.size ?_;intro v1 X1 hown1 hg1;refine hK.out _ _ ?_ (fun ag=>?_)
               ·exact z34
               clear hK K hHeld;have hHeld:=ag;clear ag;try simp only [pS]
               refine rH 6 58 rfl fun K hK=>?_;refine bH (by rfl) 33 82 _ rfl (ah r aw cw).toArray 19 rfl rfl (by decide) (by decide) underlying33 (by kernel_rfl) (by kernel_rfl) ?_;refine hK.out _ _ ?_ (fun ag=>?_)
               ·exact z71
               clear hK K hHeld;have hHeld:=ag;clear ag;try simp only [pS]
               have hN:=(fun X=>dR X r aw cw) X1;refine rH 7 59 rfl fun K hK=>?_;refine aj (by rfl) (.tmp 56) (.tmp 58) 33 rfl W.drew.heap.size 82 i0 _ 19 176 underlying33 hi hz0 hz1 hz2 rfl (by decide) _ (0+q) _ rfl (hown1.alloc _) (some ⟨X1.heap.size,0,none⟩) 1 1 (ah r aw cw) rfl rfl hN (df _ _ _) (by first | omega | (unfold maxLen;omega)) (by first | omega | (unfold maxLen;omega)) hHeld.size ?_;intro v2 X2 hown2 hg2;refine hK.out _ _ ?_ (fun ag=>?_)
               ·exact z35
               clear hK K hHeld;have hHeld:=ag;clear ag;try simp only [pS]
              rotate_left 1;focus
               refine bH (by rfl) 33 82 _ rfl (ah r aw cw).toArray 19 rfl rfl (by decide) (by decide) underlying33 (by kernel_rfl) (by kernel_rfl) ?_;refine hK.out _ _ ?_ (fun ag=>?_)
               ·exact z71
               clear hK K hHeld;have hHeld:=ag;clear ag;try simp only [pS]
               have hN:=(fun X=>dR X r aw cw) X0;refine rH 4 56 rfl fun K hK=>?_;refine aj (by rfl) (.tmp 52) (.tmp 55) 33 rfl W.drew.heap.size 82 i0 _ 19 176 underlying33 hi hz0 hz1 hz2 rfl (by decide) _ 0 _ rfl (hown0.alloc _) (some ⟨A2,of2,none⟩) q cO (aJ (O.take q)) rfl l1 (hR1 _ hHeld) (gB _) (by first | omega | (unfold maxLen;omega)) (by first | omega | (unfold maxLen;omega)) hHeld.size ?_;intro v1 X1 hown1 hg1;refine hK.out _ _ ?_ (fun ag=>?_)
               ·exact z34
               clear hK K hHeld;have hHeld:=ag;clear ag;try simp only [pS]
               replace hN:=hN.grown hg1 (fun q hq e=>by have:=(hown0.lt _ e).2;simp only [Option.some.injEq] at hq;subst hq;simp only at this;omega);refine rH 7 59 rfl fun K hK=>?_;refine aj (by rfl) (.tmp 56) (.tmp 58) 33 rfl W.drew.heap.size 82 i0 _ 19 176 underlying33 hi hz0 hz1 hz2 rfl (by decide) _ (0+q) _ rfl hown1 (some ⟨X0.heap.size,0,none⟩) 1 1 (ah r aw cw) rfl rfl hN (df _ _ _) (by first | omega | (unfold maxLen;omega)) (by first | omega | (unfold maxLen;omega)) hHeld.size ?_;intro v2 X2 hown2 hg2;refine hK.out _ _ ?_ (fun ag=>?_)
               ·exact z35
               clear hK K hHeld;have hHeld:=ag;clear ag;try simp only [pS]
             rotate_left 2;focus
              refine bH (by rfl) 33 82 _ rfl (ah r aw cw).toArray 19 rfl rfl (by decide) (by decide) underlying33 (by kernel_rfl) (by kernel_rfl) ?_;refine hK.out _ _ ?_ (fun ag=>?_)
              ·exact z71
              clear hK K hHeld;have hHeld:=ag;clear ag;try simp only [pS]
              have hN:=(fun X=>dR X r aw cw) W.drew;refine rH 0 52 rfl fun K hK=>?_;refine dh (by rfl) 33 82 rfl i0 _ 19 underlying33 hi hz0 hz1 (by decide) ?_;intro v0 X0 hown0 hbel0;refine hK.out _ _ ?_ (fun ag=>?_)
              ·exact z72
              clear hK K hHeld;have hHeld:=ag;clear ag;try simp only [pS]
              replace hN:=hN.kept hbel0;have rM:=hown0;replace hown0:=own_base hown0 (b2:=W.drew.heap.size) (by first | exact aq _ | simp);refine rH 4 56 rfl fun K hK=>?_;refine aj (by rfl) (.tmp 52) (.tmp 55) 33 rfl W.drew.heap.size 82 i0 _ 19 176 underlying33 hi hz0 hz1 hz2 rfl (by decide) _ 0 _ rfl hown0 (some ⟨A2,of2,none⟩) q cO (aJ (O.take q)) rfl l1 (hR1 _ hHeld) (gB _) (by first | omega | (unfold maxLen;omega)) (by first | omega | (unfold maxLen;omega)) hHeld.size ?_;intro v1 X1 hown1 hg1;refine hK.out _ _ ?_ (fun ag=>?_)
              ·exact z34
              clear hK K hHeld;have hHeld:=ag;clear ag;try simp only [pS]
              replace hN:=hN.grown hg1 (fun q hq e=>by have:=(rM.lt _ e).1;simp only [Option.some.injEq] at hq;subst hq;simp at this;omega);refine rH 7 59 rfl fun K hK=>?_;refine aj (by rfl) (.tmp 56) (.tmp 58) 33 rfl W.drew.heap.size 82 i0 _ 19 176 underlying33 hi hz0 hz1 hz2 rfl (by decide) _ (0+q) _ rfl hown1 (some ⟨W.drew.heap.size,0,none⟩) 1 1 (ah r aw cw) rfl rfl hN (df _ _ _) (by first | omega | (unfold maxLen;omega)) (by first | omega | (unfold maxLen;omega)) hHeld.size ?_;intro v2 X2 hown2 hg2;refine hK.out _ _ ?_ (fun ag=>?_)
              ·exact z35
              clear hK K hHeld;have hHeld:=ag;clear ag;try simp only [pS]
             all_goals
              refine rH 11 63 rfl fun K hK=>?_;refine aj (by rfl) (.tmp 59) (.tmp 62) 33 rfl W.drew.heap.size 82 i0 _ 19 176 underlying33 hi hz0 hz1 hz2 rfl (by decide) _ (0+q+1) _ rfl hown2 (l9 (some ⟨A2,of2,none⟩) cO q 19) (O.length - q) (cO - q) (aJ (O.drop q)) rfl l2 (hR2 _ hHeld) (gB _) (by first | omega | (unfold maxLen;omega)) (by first | omega | (unfold maxLen;omega)) hHeld.size ?_;intro v3 X3 hown3 hg3;refine hK.out _ _ ?_ (fun ag=>?_)
              ·exact z87
              clear hK K hHeld;have hHeld:=ag;clear ag;try simp only [pS]
              refine tH (v:=?_) 12 3 rfl (a8 ⟨by rfl,?_⟩) ?_
              case refine_2 => exact z61
              try simp only [pS]
              refine wpAnyH_done (by kernel_rfl) ?_ _;refine NoPanic.normal ?_;have e1:[]++aJ (O.take q)++ah r aw cw++aJ (O.drop q)=aJ (mQ O (r,aw,cw)):=by unfold mQ;rw [HI.out];simp [aJ]
              have e2:0+q+1+(O.length - q)=(mQ O (r,aw,cw)).length:=by rw [yj];omega
              rw [e1,e2] at hown3;obtain ⟨a2,c2,rfl,hcell2,hc2⟩:=dE hown3;obtain ⟨a3,c3,he3,pI⟩:=iO hown3 (fun x hx=>(HD.out x hx).kept (hBW.trans (hHeld.mono hzW)));obtain ⟨rfl,rfl⟩:a2=a3/\c2=c3:=by cases he3;exact ⟨rfl,rfl⟩
              have HZ:=aa (a7 pI (a7 hc2 (HBX.out.trans ((hBW.trans (hHeld.mono hzW)).mono hzp))));clear e1 e2 hR1 hR2 l1 l2 hF hcut mX hown3 hHeld mJ hBW hbW pI hcell2 hc2 he3;go_wp2;go_roundw
              case rel => exact z115
              case measure => exact z64
          ·have HI:Hid (iZ O r.key=q):=by unfold Hid;rw [HA.out,List.drop_eq_nil_of_le (by omega)];rfl
           have hqd:decide (q<O.length)=false:=aM hqt;have hqi:decide ((q:Int)<(O.length:Int))=false:=aM (by omega);go_upto_region 9 with fail
           refine y62 ?_
           intro WA hWA hbA
           have pc7:∀ i:After WA,i.w.cell? ⟨Q,7,none⟩=some (.string r.key.name):=fun i=>i.cell (kept hbA c7);have pc8:∀ i:After WA,i.w.cell? ⟨Q,8,none⟩=some (.string r.key.domain):=fun i=>i.cell (kept hbA c8);have pc9:∀ i:After WA,i.w.cell? ⟨Q,9,none⟩=some (.string r.key.path):=fun i=>i.cell (kept hbA c9);clear hWA;iterate 14 go_big_quiet_step (fail)
           refine wpQuiet_nil ?_;rintro _ ⟨i,rfl⟩;have hiA:=i.h;generalize i.w=wq at hiA ⊢;have hbY:Below wr.heap.size wr wq:=below2 hbA hiA;clear hbA hiA pc7 pc8 pc9;replace hB:=hB.trans (hbY.mono hB.size);clear hbY c7 c8 c9;go_upto_region 11 with fail
           refine aN (fun W hW=>?_);have hbW:Below wq.heap.size wq W.drew:=by rw [hW.out];go_grown
           have hBW:Below wo.heap.size wo W.drew:=hB.trans (hbW.mono hB.size);have mJ:=HC.out.kept hBW;have hzW:=hBW.size;have hq:=HQ.out;have hol:=HOL.out;have hcut:∀ X,(Instr.sliceAt 33 (.slice aO O.length cO) none (some (.int .i64 (q:Nat))) none).run prog X=.ok (.slice aO q cO) X:=fun X=>lu X _ _ i0 aO O.length cO .i64 q underlying33 hi (by have:=HOC.out;omega);have mX:∀ X,(Instr.sliceAt 33 (.slice aO O.length cO) (some (.int .i64 (q:Nat))) none none).run prog X=.ok (.slice (l9 aO cO q 19) (O.length - q) (cO - q)) X:=fun X=>jY X _ _ i0 aO O.length cO .i64 q 19 underlying33 hi hz1 (by omega);have hR1:∀ X,Below W.drew.heap.size W.drew X->CellsIn X aO (aJ (O.take q)):=fun X h=>by rw [<- tN];exact (mJ.kept h).take _
           have hR2:∀ X,Below W.drew.heap.size W.drew X->CellsIn X (l9 aO cO q 19) (aJ (O.drop q)):=fun X h=>by rw [<- tV];exact (mJ.kept h).cut (eU O) HOC.out q
           have l1:(aJ (O.take q)).length=q * 19:=by rw [eU,List.length_take,Nat.min_eq_left hq]
           have l2:(aJ (O.drop q)).length=(O.length - q) * 19:=by rw [eU,List.length_drop]
           have hF:∀ X,Below W.drew.heap.size W.drew X->X.rangeAt Q 0 (ah r aw cw):=fun X h=>ai (ai HER.out hBW) h;clear hW
           refine y68 ?_
           intro hHeld
           refine tH (v:=?_) 1 53 rfl (a8 ⟨by rfl,?_⟩) ?_
           case refine_2 => exact z61
           try simp only [pS]
           refine tH (v:=?_) 2 54 rfl (a8 ⟨by rfl,?_⟩) ?_
           case refine_2 => exact z61
           try simp only [pS]
           refine tH 3 55 rfl (a8 ⟨by rfl,fun W hSW=>gq _ _ _ _ _ rfl _ (hcut W)⟩) ?_;try simp only [pS]
           refine tH 5 57 rfl (yieldsIf_load_mid (by rfl) 82 _ rfl Q 0 rfl (ah r aw cw) _ (fun X h=>hF X h) underlying82 rfl (by kernel_rfl)) ?_;try simp only [pS]
           refine tH (v:=?_) 8 60 rfl (a8 ⟨by rfl,?_⟩) ?_
           case refine_2 => exact z61
           try simp only [pS]
           refine tH (v:=?_) 9 61 rfl (a8 ⟨by rfl,?_⟩) ?_
           case refine_2 => exact z61
           try simp only [pS]
           refine tH 10 62 rfl (a8 ⟨by rfl,fun W hSW=>gq _ _ _ _ _ rfl _ (mX W)⟩) ?_;try simp only [pS]
           refine wpAnyH_ready (rs:=[0,6]) (by kernel_rfl) (by simp) ?_;refine AllReadyH.cons (o:=⟨some 52,_,_,_,_,_⟩) rfl (fun K hK=>?_) (AllReadyH.cons (o:=⟨some 58,_,_,_,_,_⟩) rfl (fun K hK=>?_) AllReadyH.nil);focus
            refine dh (by rfl) 33 82 rfl i0 _ 19 underlying33 hi hz0 hz1 (by decide) ?_;intro v0 X0 hown0 hbel0;refine hK.out _ _ ?_ (fun ag=>?_)
            ·exact z72
            clear hK K hHeld;have hHeld:=ag;clear ag;try simp only [pS]
            refine wpAnyH_ready (rs:=[4,6]) (by kernel_rfl) (by simp) ?_;refine AllReadyH.cons (o:=⟨some 56,_,_,_,_,_⟩) rfl (fun K hK=>?_) (AllReadyH.cons (o:=⟨some 58,_,_,_,_,_⟩) rfl (fun K hK=>?_) AllReadyH.nil);focus
             refine aj (by rfl) (.tmp 52) (.tmp 55) 33 rfl W.drew.heap.size 82 i0 _ 19 176 underlying33 hi hz0 hz1 hz2 rfl (by decide) _ 0 _ rfl hown0 aO q cO (aJ (O.take q)) rfl l1 (hR1 _ hHeld) (gB _) (by first | omega | (unfold maxLen;omega)) (by first | omega | (unfold maxLen;omega)) hHeld.size ?_;intro v1 X1 hown1 hg1;refine hK.out _ _ ?_ (fun ag=>?_)
             ·exact z34
             clear hK K hHeld;have hHeld:=ag;clear ag;try simp only [pS]
             refine rH 6 58 rfl fun K hK=>?_;refine bH (by rfl) 33 82 _ rfl (ah r aw cw).toArray 19 rfl rfl (by decide) (by decide) underlying33 (by kernel_rfl) (by kernel_rfl) ?_;refine hK.out _ _ ?_ (fun ag=>?_)
             ·exact z71
             clear hK K hHeld;have hHeld:=ag;clear ag;try simp only [pS]
             have hN:=(fun X=>dR X r aw cw) X1;refine rH 7 59 rfl fun K hK=>?_;refine aj (by rfl) (.tmp 56) (.tmp 58) 33 rfl W.drew.heap.size 82 i0 _ 19 176 underlying33 hi hz0 hz1 hz2 rfl (by decide) _ (0+q) _ rfl (hown1.alloc _) (some ⟨X1.heap.size,0,none⟩) 1 1 (ah r aw cw) rfl rfl hN (df _ _ _) (by first | omega | (unfold maxLen;omega)) (by first | omega | (unfold maxLen;omega)) hHeld.size ?_;intro v2 X2 hown2 hg2;refine hK.out _ _ ?_ (fun ag=>?_)
             ·exact z35
             clear hK K hHeld;have hHeld:=ag;clear ag;try simp only [pS]
            rotate_left 1;focus
             refine bH (by rfl) 33 82 _ rfl (ah r aw cw).toArray 19 rfl rfl (by decide) (by decide) underlying33 (by kernel_rfl) (by kernel_rfl) ?_;refine hK.out _ _ ?_ (fun ag=>?_)
             ·exact z71
             clear hK K hHeld;have hHeld:=ag;clear ag;try simp only [pS]
             have hN:=(fun X=>dR X r aw cw) X0;refine rH 4 56 rfl fun K hK=>?_;refine aj (by rfl) (.tmp 52) (.tmp 55) 33 rfl W.drew.heap.size 82 i0 _ 19 176 underlying33 hi hz0 hz1 hz2 rfl (by decide) _ 0 _ rfl (hown0.alloc _) aO q cO (aJ (O.take q)) rfl l1 (hR1 _ hHeld) (gB _) (by first | omega | (unfold maxLen;omega)) (by first | omega | (unfold maxLen;omega)) hHeld.size ?_;intro v1 X1 hown1 hg1;refine hK.out _ _ ?_ (fun ag=>?_)
             ·exact z34
             clear hK K hHeld;have hHeld:=ag;clear ag;try simp only [pS]
             replace hN:=hN.grown hg1 (fun q hq e=>by have:=(hown0.lt _ e).2;simp only [Option.some.injEq] at hq;subst hq;simp only at this;omega);refine rH 7 59 rfl fun K hK=>?_;refine aj (by rfl) (.tmp 56) (.tmp 58) 33 rfl W.drew.heap.size 82 i0 _ 19 176 underlying33 hi hz0 hz1 hz2 rfl (by decide) _ (0+q) _ rfl hown1 (some ⟨X0.heap.size,0,none⟩) 1 1 (ah r aw cw) rfl rfl hN (df _ _ _) (by first | omega | (unfold maxLen;omega)) (by first | omega | (unfold maxLen;omega)) hHeld.size ?_;intro v2 X2 hown2 hg2;refine hK.out _ _ ?_ (fun ag=>?_)
             ·exact z35
             clear hK K hHeld;have hHeld:=ag;clear ag;try simp only [pS]
           rotate_left 2;focus
            refine bH (by rfl) 33 82 _ rfl (ah r aw cw).toArray 19 rfl rfl (by decide) (by decide) underlying33 (by kernel_rfl) (by kernel_rfl) ?_;refine hK.out _ _ ?_ (fun ag=>?_)
            ·exact z71
            clear hK K hHeld;have hHeld:=ag;clear ag;try simp only [pS]
            have hN:=(fun X=>dR X r aw cw) W.drew;refine rH 0 52 rfl fun K hK=>?_;refine dh (by rfl) 33 82 rfl i0 _ 19 underlying33 hi hz0 hz1 (by decide) ?_;intro v0 X0 hown0 hbel0;refine hK.out _ _ ?_ (fun ag=>?_)
            ·exact z72
            clear hK K hHeld;have hHeld:=ag;clear ag;try simp only [pS]
            replace hN:=hN.kept hbel0;have rM:=hown0;replace hown0:=own_base hown0 (b2:=W.drew.heap.size) (by first | exact aq _ | simp);refine rH 4 56 rfl fun K hK=>?_;refine aj (by rfl) (.tmp 52) (.tmp 55) 33 rfl W.drew.heap.size 82 i0 _ 19 176 underlying33 hi hz0 hz1 hz2 rfl (by decide) _ 0 _ rfl hown0 aO q cO (aJ (O.take q)) rfl l1 (hR1 _ hHeld) (gB _) (by first | omega | (unfold maxLen;omega)) (by first | omega | (unfold maxLen;omega)) hHeld.size ?_;intro v1 X1 hown1 hg1;refine hK.out _ _ ?_ (fun ag=>?_)
            ·exact z34
            clear hK K hHeld;have hHeld:=ag;clear ag;try simp only [pS]
            replace hN:=hN.grown hg1 (fun q hq e=>by have:=(rM.lt _ e).1;simp only [Option.some.injEq] at hq;subst hq;simp at this;omega);refine rH 7 59 rfl fun K hK=>?_;refine aj (by rfl) (.tmp 56) (.tmp 58) 33 rfl W.drew.heap.size 82 i0 _ 19 176 underlying33 hi hz0 hz1 hz2 rfl (by decide) _ (0+q) _ rfl hown1 (some ⟨W.drew.heap.size,0,none⟩) 1 1 (ah r aw cw) rfl rfl hN (df _ _ _) (by first | omega | (unfold maxLen;omega)) (by first | omega | (unfold maxLen;omega)) hHeld.size ?_;intro v2 X2 hown2 hg2;refine hK.out _ _ ?_ (fun ag=>?_)
            ·exact z35
            clear hK K hHeld;have hHeld:=ag;clear ag;try simp only [pS]
           all_goals
            refine rH 11 63 rfl fun K hK=>?_;refine aj (by rfl) (.tmp 59) (.tmp 62) 33 rfl W.drew.heap.size 82 i0 _ 19 176 underlying33 hi hz0 hz1 hz2 rfl (by decide) _ (0+q+1) _ rfl hown2 (l9 aO cO q 19) (O.length - q) (cO - q) (aJ (O.drop q)) rfl l2 (hR2 _ hHeld) (gB _) (by first | omega | (unfold maxLen;omega)) (by first | omega | (unfold maxLen;omega)) hHeld.size ?_;intro v3 X3 hown3 hg3;refine hK.out _ _ ?_ (fun ag=>?_)
            ·exact z87
            clear hK K hHeld;have hHeld:=ag;clear ag;try simp only [pS]
            refine tH (v:=?_) 12 3 rfl (a8 ⟨by rfl,?_⟩) ?_
            case refine_2 => exact z61
            try simp only [pS]
            refine wpAnyH_done (by kernel_rfl) ?_ _;refine NoPanic.normal ?_;have e1:[]++aJ (O.take q)++ah r aw cw++aJ (O.drop q)=aJ (mQ O (r,aw,cw)):=by unfold mQ;rw [HI.out];simp [aJ]
            have e2:0+q+1+(O.length - q)=(mQ O (r,aw,cw)).length:=by rw [yj];omega
            rw [e1,e2] at hown3;obtain ⟨a2,c2,rfl,hcell2,hc2⟩:=dE hown3;obtain ⟨a3,c3,he3,pI⟩:=iO hown3 (fun x hx=>(HD.out x hx).kept (hBW.trans (hHeld.mono hzW)));obtain ⟨rfl,rfl⟩:a2=a3/\c2=c3:=by cases he3;exact ⟨rfl,rfl⟩
            have HZ:=aa (a7 pI (a7 hc2 (HBX.out.trans ((hBW.trans (hHeld.mono hzW)).mono hzp))));clear e1 e2 hR1 hR2 l1 l2 hF hcut mX hown3 hHeld mJ hBW hbW pI hcell2 hc2 he3;go_wp2;go_roundw
            case rel => exact z115
            case measure => exact z64
        ·rw [aM hde] at hEq
         have HS:Hid (evsOf O=((evsOf L).take (k+1)).foldl (jl (rwF L)) []):=by unfold Hid;rw [HT.out,List.foldl_append,<- HOV.out];show _=jl (rwF L) (evsOf O) e;unfold jl;rw [HR.out,if_neg hde]
         clear hde;go_upto_region 7 with fail
         refine y15 ?_
         intro WA hbA pd0 pd1 pd2 pe0 pe1 pe2
         rintro _ ⟨i,rfl⟩;have hiA:=i.h;generalize i.w=wp at hiA ⊢;have hbY:Below X.heap.size X wp:=below2 hbA hiA;clear hbA hiA pd0 pd1 pd2 pe0 pe1 pe2;have HZ:=aa (a7 (QZ.kept hbY) (hbX.trans (hbY.mono hbX.size)));clear hbY hE hdX QZ hbX d0 d1 d2 d7 d8 d9 e0 e1 e2 hEq hm;go_wp2;go_roundw
         case rel=>exact ⟨k+1,aO,O,cO,by go_num,HLT.out,rfl,HZ.out.1,HOC.out,Nat.le_succ_of_le HOL.out,HS.out,HZ.out.2⟩
         case measure => exact z64
  ·obtain rfl:k=L.length:=by omega
   have hE:evsOf O=(evsOf L).foldl (jl (rwF L)) []:=by
        have h9:=HOV.out
        exact z137
   have HE:=aa hE;clear hE;go_wp2;go_ret;exact ⟨aO,O,cO,rfl,hEO,HE.out,hbW0.trans (hbr.mono hbW0.size)⟩
end Go.Proofs.YthphepeniaemoaaGreat
