/- The map of events: kill, plainly. Conditions: as in the text. -/
import Derived.Test.YthphepeniaemoaaGreatOrm
set_option linter.unusedSimpArgs false
set_option linter.unusedVariables false
set_option linter.unnecessarySimpa false
set_option maxHeartbeats 16000000
set_option maxRecDepth 100000
open Go.Proofs.Tryz
namespace Go.Proofs.YthphepeniaemoaaGreat
open Go.RowKit
theorem Be {l:List Dot} (h:(ones l).Pairwise fun p q=>p.1≠q.1):l.Nodup:=by
 have:=List.pairwise_map.1 h;exact this
theorem tZ {l:List Dot} {d:Dot} (hn:l.Nodup) (hd:d∈l):l.Perm (d :: l.filter fun x=>decide (x≠d)):=by
 obtain ⟨r,hr⟩:=jV hd;have h1:(d :: r).Nodup:=(hr.nodup_iff).1 hn;have h2:=(List.nodup_cons.1 h1).1;have h3:(l.filter fun x=>decide (x≠d)).Perm r:=by
  have h4:=hr.filter fun x=>decide (x≠d);rw [List.filter_cons,if_neg (by simp)] at h4;have h5:(r.filter fun x=>decide (x≠d))=r:=List.filter_eq_self.2 fun x hx=>aR (fun e=>h2 (e▸hx));rw [h5] at h4;exact h4
 exact hr.trans (h3.symm.cons d)
theorem jw {l:List Dot} {d:Dot} (hd:d ∉ l):(l.filter fun x=>decide (x≠d))=l:=List.filter_eq_self.2 fun x hx=>by simp;intro e;exact hd (e▸hx)
/-- a set of dots, one of them struck -/
theorem DTab.drop {w:World} {b:Nat} {l:List Dot} (h:DTab w b l) {d:Dot} (hd:DotW d) (ty:TypeId) :
 ∃ w',(Builtin.delete_ #[121,76] ty #[.map (some b),bZ d]).run prog w=.ok (.tuple #[]) w'/\DTab w' b (l.filter fun x=>decide (x≠d))/\Fr (isR b) w w':=by
 by_cases hm:d∈l
 ·have hp:=(tZ (Be h.apart) hm).map fun d=>(d,(1:Int))
  exact Tab.drop_old jE (Tab.perm h hp) underlying121 ty
 ·rw [jw hm]
  exact Tab.drop_miss jE h underlying121 ty hd (fun p hp=>by obtain ⟨x,hx,rfl⟩:=List.mem_map.1 hp;exact fun e=>hm (by rw [<- e];exact hx))
/-- a set of dots, with one more -/
def mM (d:Dot) (l:List Dot):List Dot:=if d∈l then l else d :: l
theorem DTab.add {w:World} {b:Nat} {l:List Dot} (h:DTab w b l) {d:Dot} (hd:DotW d) (hl:l.length<=1073741824) :
 ∃ w',(Instr.mapUpdate 121 (.map (some b)) (bZ d) (.int .i64 1)).run prog w=.ok () w'/\DTab w' b (mM d l)/\Fr (isR b) w w':=by
 unfold mM;by_cases hm:d∈l
 ·rw [if_pos hm]
  have hp:=(tZ (Be h.apart) hm);have hlen:=hp.length_eq;simp only [List.length_cons] at hlen;obtain ⟨w',h1,h2,h3⟩:=Tab.store_old jE (Tab.perm h (hp.map fun d=>(d,(1:Int)))) underlying121 (by rw [List.length_map];unfold maxLen;omega) 1;exact ⟨w',h1,Tab.perm h2 (hp.map fun d=>(d,(1:Int))).symm,h3⟩
 ·rw [if_neg hm]
  exact Tab.store_new jE h underlying121 (by unfold ones maxLen;rw [List.length_map];omega) hd (fun p hp=>by obtain ⟨x,hx,rfl⟩:=List.mem_map.1 hp;exact fun e=>hm (by rw [<- e];exact hx)) 1
theorem MpIn.setDead {w w':World} {m:Nat} {b:MB} {s:MS} {l:List Dot} (h:MpIn w m b s) (ht:DTab w' b.db l) (hf:Fr (isR b.db) w w'):MpIn w' m b { s with dead:=l }:=by
 obtain ⟨n1,n2,n3,n4,n5,n6,n7,n8⟩:=jc h.nodup;have hK:=h.keeps hf (fun i hi=>by subst hi;exact jh b _);exact ⟨hK _ _ _ _ h.cell,⟨hK _ _ _ _ h.vec.cell,h.vec.tab.fr hf (Ne.symm n6)⟩,h.kept.fr hf n2,fun x hx=>hK.dots (h.overs x hx),ht,h.alive.fr hf n4,fun p hp=>(h.inner p hp).fr hf (n7 p hp).2.2.1.symm,h.some,h.keys,h.nodup⟩
theorem MpIn.setAlive {w w':World} {m:Nat} {b:MB} {s:MS} (h:MpIn w m b s) (ht:JA w' b.ab s.A) (hf:Fr (isR b.ab) w w'):MpIn w' m b s:=by
 obtain ⟨n1,n2,n3,n4,n5,n6,n7,n8⟩:=jc h.nodup;have hK:=h.keeps hf (fun i hi=>by subst hi;exact iO b _);exact ⟨hK _ _ _ _ h.cell,⟨hK _ _ _ _ h.vec.cell,h.vec.tab.fr hf (Ne.symm n5)⟩,h.kept.fr hf n1,fun x hx=>hK.dots (h.overs x hx),h.dead.fr hf (Ne.symm n4),ht,fun p hp=>(h.inner p hp).fr hf (n7 p hp).2.1.symm,h.some,h.keys,h.nodup⟩
/-- the alive dots without one -/
def strike (pairs:List (Key×Dot)) (d:Dot):List (Key×Dot):=pairs.filter fun q=>decide (q.2≠d)
theorem oP (pairs:List (Key×Dot)) (d:Dot) (k:Key):atK (strike pairs d) k=(atK pairs k).filter fun x=>decide (x≠d):=by
 unfold atK strike;rw [List.filter_map,List.filter_filter,List.filter_filter];congr 1
 apply List.filter_congr;intro q _;simp [Bool.and_comm]
theorem su {pairs:List (Key×Dot)} {d:Dot} (h:∀ k,(k,d) ∉ pairs):strike pairs d=pairs:=List.filter_eq_self.2 fun q hq=>by
 simp;intro e;exact h q.1 (by rw [<- e];exact hq)
theorem nz {pairs:List (Key×Dot)} {k:Key} {d:Dot}:d∈atK pairs k↔(k,d)∈pairs:=by
 unfold atK;simp only [List.mem_map,List.mem_filter,decide_eq_true_eq];constructor
 ·rintro ⟨q,⟨h1,h2⟩,h3⟩
  obtain ⟨a,b⟩:=q;simp only at h2 h3;subst h2 h3;exact h1
 ·intro h
  exact ⟨(k,d),⟨h,rfl⟩,rfl⟩
theorem sD {pairs:List (Key×Dot)} {d:Dot} {q:Key×Dot} (h:q∈strike pairs d):q∈pairs:=(List.mem_filter.1 h).1
theorem SA {A:List (Key×Nat)} (ha:A.Pairwise fun p q=>p.1≠q.1) {p q:Key×Nat} (hp:p∈A) (hq:q∈A) (e:p.1=q.1):p=q:=by
 obtain ⟨i,hi,rfl⟩:=List.getElem_of_mem hp;obtain ⟨j,hj,rfl⟩:=List.getElem_of_mem hq;have hh:=List.pairwise_iff_getElem.1 ha
 exact z131
/-- a dot struck out of a key's dots, some of which stay -/
theorem MpIn.kill_keep {w w':World} {m:Nat} {b:MB} {s:MS} {k:Key} {d:Dot} {n:Nat} (h:MpIn w m b s) (hn:(k,n)∈s.A) (hk:∀ k',(k',d)∈s.pairs->k'=k) (ht:DTab w' n ((atK s.pairs k).filter fun x=>decide (x≠d)))
 (hne:((atK s.pairs k).filter fun x=>decide (x≠d))≠[]) (hf:Fr (isR n) w w'):MpIn w' m b { s with pairs:=strike s.pairs d }:=by
 obtain ⟨n1,n2,n3,n4,n5,n6,n7,n8⟩:=jc h.nodup;obtain ⟨q1,q2,q3,q4⟩:=n7 _ hn;have hK:=h.keeps hf (fun i hi=>by subst hi;exact lN b hn);refine ⟨hK _ _ _ _ h.cell,⟨hK _ _ _ _ h.vec.cell,h.vec.tab.fr hf q4⟩,h.kept.fr hf q1,fun x hx=>hK.dots (h.overs x hx),h.dead.fr hf q3,h.alive.fr hf q2,fun p hp=>?_,fun p hp=>?_,fun q hq=>h.keys q (sD hq),h.nodup⟩
 ·rw [oP]
  by_cases e:p.1=k
  ·obtain rfl:p=(k,n):=SA h.alive.apart hp hn e
   exact ht
  ·rw [jw (fun hm=>e (hk _ (nz.1 hm)))]
   exact (h.inner p hp).fr hf (fun e2=>e (by rw [yj n8 hp hn e2]))
 ·show atK (strike s.pairs d) p.1≠[]
  rw [oP];by_cases e:p.1=k
  ·rw [e];exact hne
  ·rw [jw (fun hm=>e (hk _ (nz.1 hm)))]
   exact h.some p hp
/-- a key's last dot struck: so is the key -/
theorem MpIn.kill_drop {w w':World} {m:Nat} {b:MB} {s:MS} {k:Key} {d:Dot} {n:Nat} (h:MpIn w m b s) (hn:(k,n)∈s.A) (hk:∀ k',(k',d)∈s.pairs->k'=k) {r:List (Key×Nat)} (hr:s.A.Perm ((k,n) :: r)) (hA:JA w' b.ab r)
 (he:((atK s.pairs k).filter fun x=>decide (x≠d))=[]) (hf:Fr (fun i=>i=n\/i=b.ab) w w'):MpIn w' m b { s with A:=r,pairs:=strike s.pairs d }:=by
 obtain ⟨n1,n2,n3,n4,n5,n6,n7,n8⟩:=jc h.nodup;obtain ⟨q1,q2,q3,q4⟩:=n7 _ hn;have hK:=h.keeps hf (fun i hi=>by rcases hi with rfl | rfl;exact lN b hn;exact iO b _);have hsub:∀ p∈r,p∈s.A:=fun p hp=>hr.mem_iff.2 (List.mem_cons_of_mem _ hp);have hap:=List.pairwise_cons.1 ((hr.pairwise_iff (fun {_ _} hne=>Ne.symm hne)).1 h.alive.apart);refine ⟨hK _ _ _ _ h.cell,⟨hK _ _ _ _ h.vec.cell,h.vec.tab.fr hf (by rintro (e | e);exact q4 e;exact n5 e.symm)⟩,h.kept.fr hf (by rintro (e | e);exact q1 e;exact n1 e),fun x hx=>hK.dots (h.overs x hx),
  h.dead.fr hf (by rintro (e | e);exact q3 e;exact n4 e.symm),hA,fun p hp=>?_,fun p hp=>?_,fun q hq=>?_,?_⟩
 ·have hpk:p.1≠k:=fun e=>hap.1 p hp e.symm
  show DTab w' p.2 (atK (strike s.pairs d) p.1);rw [oP,jw (fun hm=>hpk (hk _ (nz.1 hm)))];refine (h.inner p (hsub p hp)).fr hf ?_;rintro (e | e)
  ·exact hpk (by rw [yj n8 (hsub p hp) hn e])
  ·exact (n7 p (hsub p hp)).2.1 e.symm
 ·have hpk:p.1≠k:=fun e=>hap.1 p hp e.symm
  show atK (strike s.pairs d) p.1≠[];rw [oP,jw (fun hm=>hpk (hk _ (nz.1 hm)))];exact h.some p (hsub p hp)
 ·have hq1:=h.keys q (sD hq)
  obtain ⟨n',hn'⟩:=hq1;rcases List.mem_cons.1 (hr.mem_iff.1 hn') with e | e
  ·exfalso
   have:q.2∈atK (strike s.pairs d) k:=by
        have:q.1=k:=congrArg Prod.fst e;rw [<- this];exact nz.2 (show (q.1,q.2)∈_ from hq)
   rw [oP,he] at this;simp at this
  ·exact ⟨n',e⟩
 ·have hp:(blocks b s.A).Perm (n :: blocks b r):=by
   have h1:(s.A.map (·.2)).Perm (n :: r.map (·.2)):=hr.map _;have h2:(blocks b s.A).Perm ([b.kb,b.ab,b.db,b.vb]++(n :: r.map (·.2))):=by
        show ([b.kb,b.ab,b.db,b.vb]++s.A.map (·.2)).Perm _;exact h1.append_left _
   exact h2.trans List.perm_middle
  exact (List.nodup_cons.1 ((hp.nodup_iff).1 h.nodup)).2
theorem zI {P:Program} {ops:Array Oper} {o:Oper} {a:Act} {w:World} {K:Act->World->Prop} {Q:Exit->Act->World->Prop} {E:Prop} (hw:Region.wanted o (yielded ops a.tmps)=true) (ty:TypeId) (x y:Operand) (ho:o.op=.store ty x y)
 (w0:World) (c c':Array Value) (hW:w=(w0.alloc (.cells c ty)).drew) (hx:a.eval x=.pointer (some ⟨w0.heap.size,0,none⟩)) (hy:a.eval y=.agg c') (hi:(P.info? ty).map (·.size)=some c'.size)
 (hold:c.size=c'.size) (h1:c'.all (·.oneCell')=true) (h:K (a.put o.dst undef) ((w0.alloc (.cells c' ty)).drew)) :
 if Region.wanted o (yielded ops a.tmps)=true then Oper.wp P o a w K Q else E:=by
 refine dM hw ty x y ho w0.heap.size c' hx hy ty c (by rw [hW];exact aY w0 _) hi hold h1 ?_;rw [hW];have:((w0.alloc (.cells c ty)).drew).setRow w0.heap.size c'=(w0.alloc (.cells c' ty)).drew:=by
  show ((w0.alloc (.cells c ty)).setRow w0.heap.size c').drew=_;rw [World.setRow_alloc_new]
 rw [this];exact h
theorem Fr.undrew {S:Nat->Prop} {w w':World} (h:Fr S w.drew w'):Fr S w w':=⟨h.os,h.tape,h.output,h.size,h.block⟩
theorem xP {w w':World} (h:Below w.drew.heap.size w.drew w'):Below w.heap.size w w':=⟨h.os,h.tape,h.output,h.size,h.block⟩
theorem ni (w:World) (o:Obj):Below w.drew.heap.size w.drew (w.alloc o).drew:=(bh _ w.drew).alloc (ar _) o
theorem JB (w:World):(zeroValue 82).run prog w=.ok (kV ev0 none 0) w:=by kernel_rfl
/-- what a look-up among the kept events gives -/
theorem KTab.look {w:World} {b:Nat} {K:List EvIt} (h:KTab w b K) {d:Dot} (hd:DotW d) :
 (∃ x∈K,x.1.dot=d/\∀ X:World,KTab X b K->(Instr.lookup 119 (.map (some b)) (bZ d) true).run prog X=.ok (.tuple #[evV x,.bool true]) X) \/
 ((∀ x∈K,x.1.dot≠d)/\∀ X:World,KTab X b K->(Instr.lookup 119 (.map (some b)) (bZ d) true).run prog X=.ok (.tuple #[evV (ev0,none,0),.bool false]) X):=by
 by_cases hm:∃ x∈K,x.1.dot=d
 ·obtain ⟨x,hx,hxd⟩:=hm
  refine bb ⟨x,hx,hxd,fun X hX=>?_⟩;subst hxd;exact hX.look_hit jE underlying119 (JB X) (p:=(x.1.dot,x)) (List.mem_map.2 ⟨x,hx,rfl⟩) true
 ·refine bd ⟨fun x hx e=>hm ⟨x,hx,e⟩,fun X hX=>?_⟩
  exact hX.look_miss jE underlying119 (JB X) hd (fun p hp=>by obtain ⟨x,hx,rfl⟩:=List.mem_map.1 hp;exact fun e=>hm ⟨x,hx,e⟩) true
theorem z50 {p : Prop} (h : p := by (rintro w ⟨⟨s0, s1, s2⟩, sm⟩; go_simp; try with_reducible rfl)) : p := h
theorem z43 {p : Prop} (h : p := by (rintro w ⟨⟨s7, s8, s9⟩, sm⟩; go_simp; try with_reducible rfl)) : p := h
theorem z29 {p : Prop} (h : p := by (rintro w ⟨⟨⟨s0, s1, s2⟩, ⟨s7, s8, s9⟩, sm⟩, sl⟩; go_simp; try with_reducible rfl)) : p := h
theorem z27 {p : Prop} (h : p := by (rintro w hSw; have s0 := kept hSw x0; have s1 := kept hSw x1; have s2 := kept hSw x2; have sm := kept hSw xm; have sl := hlk w (h2.kept.kept hSw); go_simp; try with_reducible rfl)) : p := h
theorem z96 {p : Prop} (h : p := by
 go_wp2
 all_goals
  go_end0
  exact ⟨rfl, s.A, by (show MpIn W4 m b { s with dead := mM d s.dead, pairs := strike s.pairs d }); rw [HE.out]; exact H4.out, HF4.out.mono (fun k _ hk => by subst hk; exact jh b _), fun k hk => bb hk⟩) : p := h
theorem y45 {p q : Prop} (k : q) (h : PLift q -> p := by
 intro kk
 have hS := ba (ba (ba (show W4.drew.cell? _ = _ from x0) (ba (show W4.drew.cell? _ = _ from x1) (show W4.drew.cell? _ = _ from x2))) (ba (ba (show W4.drew.cell? _ = _ from v7) (ba (show W4.drew.cell? _ = _ from v8) (show W4.drew.cell? _ = _ from v9))) (show W4.drew.cell? _ = _ from y1))) hl4
 revert hS
 exact kk.down) : p := h ⟨k⟩
theorem y36 {p q : Prop} (k : q) (h : PLift q -> p := by
 intro kk
 refine wp_region_noPanic ?_
 refine bH (fun W' => ((W'.cell? ⟨w2.heap.size, 7, none⟩ = some (.string e.key.name) /\ W'.cell? ⟨w2.heap.size, 8, none⟩ = some (.string e.key.domain) /\ W'.cell? ⟨w2.heap.size, 9, none⟩ = some (.string e.key.path)) /\ W'.cell? ⟨m, 1, none⟩ = some (.map (some b.ab)))) [6] (by kernel_rfl) ?_
 have hS := ba (ba z7 (ba z8 z9)) z1
 revert hS
 exact kk.down) : p := h ⟨k⟩
theorem y67 {p q : Prop} (k : q) (h : PLift q -> p := by
 intro kk
 refine bD (i := 8) (o := ⟨none, _, _, _, _, _⟩) (by kernel_rfl) rfl ?_
 refine y8 ?_
 exact kk.down) : p := h ⟨k⟩
theorem Qk {m:Nat} {b:MB} {s:MS} (d:Dot) (hd:DotW d) (w:World) (h:MpIn w m b s) (hKW:∀ x∈s.K,KeyW x.1.key) (hP:∀ k,(k,d)∈s.pairs->∃ x∈s.K,x.1.dot=d/\x.1.kind=1/\x.1.key=k) (hl:s.dead.length<=1073741824) :
 Calls prog 60 #[.pointer (some ⟨m,0,none⟩),bZ d] w (Ud m b s { s with dead:=mM d s.dead,pairs:=strike s.pairs d } (.tuple #[]) w):=by
 have HH:=aq h;go_enter func60,ntmps60;go_upto_region 1 with fail
 refine aI (fun W hW=>?_);have hbw:Below w.heap.size w W.drew:=by rw [hW.out];go_grown
 have h1:MpIn W.drew m b s:=h.kept_w hbw;have x0:W.drew.cell? ⟨w.heap.size,0,none⟩=some (.int .i64 d.a.dev):=by rw [hW.out];go_simp
 have x1:W.drew.cell? ⟨w.heap.size,1,none⟩=some (.int .i64 d.a.inc):=by rw [hW.out];go_simp
 have x2:W.drew.cell? ⟨w.heap.size,2,none⟩=some (.int .i64 d.seq):=by rw [hW.out];go_simp
 have xm:W.drew.cell? ⟨m,2,none⟩=some (.map (some b.db)):=(dC h1.cell).2.2.1;clear hW h;obtain ⟨w2,hrun,htab,hfr⟩:=h1.dead.add hd hl;have h2:=h1.setDead htab hfr;have hK2:=h1.keeps hfr (fun i hi=>by subst hi;exact jh b _);have UT:Fr (isR b.db) w w2:=IK hbw hfr;have hzw:w.heap.size<=w2.heap.size:=UT.size;clear htab hfr;refine wp_region_noPanic ?_;refine bH (fun W'=>(W'.cell? ⟨w.heap.size,0,none⟩=some (.int .i64 d.a.dev)/\W'.cell? ⟨w.heap.size,1,none⟩=some (.int .i64 d.a.inc)/\W'.cell? ⟨w.heap.size,2,none⟩=some (.int .i64 d.seq))/\W'.cell? ⟨m,2,none⟩=some (.map (some b.db))) [5] (by kernel_rfl) ?_;have hS:=ba (ba x0 (ba x1 x2)) xm;refine tL (v:=?_) 0 6 rfl (bb ⟨by rfl,?_⟩) ?_
 case refine_2 => exact z50
 try simp only [pS]
 refine tL (v:=?_) 1 7 rfl (bb ⟨by rfl,?_⟩) ?_
 case refine_2 => exact z50
 try simp only [pS]
 refine tL (v:=?_) 2 8 rfl (bb ⟨by rfl,?_⟩) ?_
 case refine_2 => exact z50
 try simp only [pS]
 refine tL (v:=?_) 3 9 rfl (bb ⟨by rfl,?_⟩) ?_
 case refine_2 => exact z50
 try simp only [pS]
 refine tL (v:=?_) 4 10 rfl (bb ⟨by rfl,?_⟩) ?_
 case refine_2 => exact z50
 try simp only [pS]
 refine bD (i:=5) (o:=⟨none,_,_,_,_,_⟩) (by kernel_rfl) rfl ?_;intro K hK;go_simp;refine hK.out _ _ (bb (by kernel_rfl)) ?_;clear hK K;try simp only [pS]
 refine jZ (by kernel_rfl) ?_ _;refine NoPanic.normal ?_;replace x0:w2.drew.cell? _=_:=hK2.cell x0;replace x1:w2.drew.cell? _=_:=hK2.cell x1;replace x2:w2.drew.cell? _=_:=hK2.cell x2;clear hS hrun xm h1 hK2 hbw;replace h2:MpIn w2.drew m b { s with dead:=mM d s.dead }:=h2.kept_w (bh _ _).drew;have xm:w2.drew.cell? ⟨m,0,none⟩=some (.map (some b.kb)):=(dC h2.cell).1;obtain ⟨x,ok,hlk,hcase⟩:∃ (x:EvIt) (ok:Bool),(∀ X:World,KTab X b.kb s.K->(Instr.lookup 119 (.map (some b.kb)) (bZ d) true).run prog X=.ok (.tuple #[evV x,.bool ok]) X)/\((ok=true/\x∈s.K/\x.1.dot=d)\/(ok=false/\∀ y∈s.K,y.1.dot≠d)):=by
  rcases KTab.look h2.kept hd with ⟨x,hx,hxd,hX⟩ | ⟨hno,hX⟩
  ·exact ⟨x,true,hX,bb ⟨rfl,hx,hxd⟩⟩
  ·exact ⟨(ev0,none,0),false,hX,bd ⟨rfl,hno⟩⟩
 obtain ⟨e,ea,ec⟩:=x;have hl2:=hlk w2.drew h2.kept;have HC:=aq hcase;clear hcase;go_upto_region 2 with fail
 refine wp_region_noPanic ?_;refine bH (fun X=>Below w2.drew.heap.size w2.drew X) [] (by kernel_rfl) ?_;have hb0:Below w2.drew.heap.size w2.drew w2.drew:=bh _ _;refine tL (v:=?_) 0 12 rfl (bb ⟨by rfl,?_⟩) ?_
 case refine_2 => exact z27
 try simp only [pS]
 refine tL (v:=?_) 1 13 rfl (bb ⟨by rfl,?_⟩) ?_
 case refine_2 => exact z27
 try simp only [pS]
 refine tL (v:=?_) 2 14 rfl (bb ⟨by rfl,?_⟩) ?_
 case refine_2 => exact z27
 try simp only [pS]
 refine tL (v:=?_) 3 15 rfl (bb ⟨by rfl,?_⟩) ?_
 case refine_2 => exact z27
 try simp only [pS]
 refine tL (v:=?_) 4 16 rfl (bb ⟨by rfl,?_⟩) ?_
 case refine_2 => exact z27
 try simp only [pS]
 refine tL (v:=?_) 5 17 rfl (bb ⟨by rfl,?_⟩) ?_
 case refine_2 => exact z27
 try simp only [pS]
 refine tL (v:=?_) 6 11 rfl (bb ⟨by rfl,?_⟩) ?_
 case refine_2 => exact z27
 try simp only [pS]
 refine tL (v:=?_) 7 18 rfl (bb ⟨by rfl,?_⟩) ?_
 case refine_2 => exact z27
 try simp only [pS]
 refine tL (v:=?_) 8 19 rfl (bb ⟨by rfl,?_⟩) ?_
 case refine_2 => exact z27
 try simp only [pS]
 refine bD (i:=9) (o:=⟨some 4,_,_,_,_,_⟩) (by kernel_rfl) rfl ?_;intro K hK;go_simp;refine hK.out _ _ (bd (ni w2 _)) ?_;clear hK K;try simp only [pS]
 refine bD (i:=10) (o:=⟨none,_,_,_,_,_⟩) (by kernel_rfl) rfl ?_;intro K hK;refine zI (by rfl) 82 (.tmp 4) (.tmp 18) rfl w2 _ (az e ea ec).toArray rfl rfl rfl (by kernel_rfl) rfl (by kernel_rfl) ?_;refine hK.out _ _ (bd (ni w2 _)) ?_;clear hK K;try simp only [pS]
 refine bD (i:=11) (o:=⟨some 5,_,_,_,_,_⟩) (by kernel_rfl) rfl ?_;intro K hK;go_simp;refine hK.out _ _ (bd (ni w2 _)) ?_;clear hK K;try simp only [pS]
 refine jZ (by kernel_rfl) ?_ _;refine NoPanic.normal ?_;obtain ⟨W4,hW4⟩:∃ W4,W4=(w2.alloc (Obj.cells (az e ea ec).toArray 82)).drew:=⟨_,rfl⟩;rw [<- hW4];have hR:W4.rangeAt w2.heap.size 0 (az e ea ec):=by rw [hW4];exact dU e ea ec w2 _
 have hb4:Below w2.drew.heap.size w2.drew W4:=by rw [hW4];exact ni w2 _
 clear hW4 hl2 hlk hb0;have h4:=h2.kept_w hb4;replace x0:=kept hb4 x0;replace x1:=kept hb4 x1;replace x2:=kept hb4 x2;have v0:W4.cell? ⟨w2.heap.size,0,none⟩=some (.int .i64 e.dot.a.dev):=by have:=hR 0 _ rfl;rwa [aw] at this
 have v1:W4.cell? ⟨w2.heap.size,1,none⟩=some (.int .i64 e.dot.a.inc):=by have:=hR 1 _ rfl;rwa [aw] at this
 have v2:W4.cell? ⟨w2.heap.size,2,none⟩=some (.int .i64 e.dot.seq):=by have:=hR 2 _ rfl;rwa [aw] at this
 have v6:W4.cell? ⟨w2.heap.size,6,none⟩=some (.int .i64 e.kind):=by have:=hR 6 _ rfl;rwa [aw] at this
 have v7:W4.cell? ⟨w2.heap.size,7,none⟩=some (.string e.key.name):=by have:=hR 7 _ rfl;rwa [aw] at this
 have v8:W4.cell? ⟨w2.heap.size,8,none⟩=some (.string e.key.domain):=by have:=hR 8 _ rfl;rwa [aw] at this
 have v9:W4.cell? ⟨w2.heap.size,9,none⟩=some (.string e.key.path):=by have:=hR 9 _ rfl;rwa [aw] at this
 have UR:Fr (isR b.db) w W4:=UT.again (Fr.of_below (xP hb4));have hz4:w.heap.size<=W4.heap.size:=UR.size;have hbN:w2.heap.size<W4.heap.size:=World.block_lt_of_cell? W4 _ v6;have HF4:=aq UR;have H4:=aq h4;clear hR xm h2 hb4 UT UR;rcases HC.out with ⟨rfl,hxK,hxd⟩ | ⟨rfl,hno⟩
 case inr =>
  have HE:Hid (strike s.pairs d=s.pairs):=su (fun k hk=>by obtain ⟨x,hx,hx2,_⟩:=hP k hk;exact hno x hx hx2);clear hno HC h4
  exact z96
 have HUQ:Hid (∀ x∈s.K,x.1.dot=d->x=(e,ea,ec)):=fun x hx hx2=>by
  have hap:=List.pairwise_map.1 H4.out.kept.apart;obtain ⟨i,hi,rfl⟩:=List.getElem_of_mem hx;obtain ⟨j,hj,hj2⟩:=List.getElem_of_mem hxK;have hh:=List.pairwise_iff_getElem.1 hap;have e1:s.K[i].1.dot=s.K[j].1.dot:=by rw [hx2,hj2];exact hxd.symm
  rcases Nat.lt_trichotomy i j with hij | hij | hij
  ·exact absurd e1 (hh i j hi hj hij)
  ·subst hij;exact hj2
  ·exact absurd e1.symm (hh j i hj hi hij)
 by_cases hk1:e.kind=1
 case neg =>
  have HE:Hid (strike s.pairs d=s.pairs):=su (fun k hk=>by
   obtain ⟨x,hx,hx2,hx3,_⟩:=hP k hk;rw [HUQ.out x hx hx2] at hx3;exact hk1 hx3)
  have hne1:(e.kind != 1)=true:=by rw [bne_iff_ne];exact hk1
  clear hxK hxd HC h4 hk1 HUQ
  exact z96
 have hne1:(e.kind != 1)=false:=by rw [bne_eq_false_iff_eq];exact hk1
 have hkw:KeyW e.key:=hKW _ hxK;have HPK:Hid (∀ k',(k',d)∈s.pairs->k'=e.key):=fun k hk=>by
  obtain ⟨x,hx,hx2,_,hx4⟩:=hP k hk;rw [HUQ.out x hx hx2] at hx4;exact hx4.symm
 have y1:W4.cell? ⟨m,1,none⟩=some (.map (some b.ab)):=(dC h4.cell).2.1;have hmb:m<W4.heap.size:=World.block_lt_of_cell? W4 _ y1;have hwb:w.heap.size<W4.heap.size:=World.block_lt_of_cell? W4 _ x0;clear hxK hxd HC hk1 hKW hP HUQ;go_upto_region 4 with fail
 by_cases hex:∃ n,(e.key,n)∈s.A
 ·obtain ⟨n,hnA⟩:=hex
  have hl4:(Instr.lookup 120 (.map (some b.ab)) (kQ e.key) false).run prog W4.drew=.ok (.map (some n)) W4.drew:=Tab.look_hit (w:=W4.drew) BG h4.alive underlying120 (z:=.map none) (by kernel_rfl) hnA false;obtain ⟨w5,hrun5,hD5,hf5⟩:=DTab.drop (w:=W4.drew) (h4.inner _ hnA) hd 0;replace hf5:Fr (isR n) W4 w5:=hf5.undrew;have hK5:=h4.keeps hf5 (fun i hi=>by subst hi;exact lN b hnA);have hA5:JA w5 b.ab s.A:=h4.alive.fr hf5 ((jc h4.nodup).2.2.2.2.2.2.1 _ hnA).2.1;refine wp_region_noPanic ?_;refine bH (fun W'=>((W'.cell? ⟨w.heap.size,0,none⟩=some (.int .i64 d.a.dev)/\W'.cell? ⟨w.heap.size,1,none⟩=some (.int .i64 d.a.inc)/\W'.cell? ⟨w.heap.size,2,none⟩=some (.int .i64 d.seq))/\(W'.cell? ⟨w2.heap.size,7,none⟩=some (.string e.key.name)/\W'.cell? ⟨w2.heap.size,8,none⟩=some (.string e.key.domain)/\W'.cell? ⟨w2.heap.size,9,none⟩=some (.string e.key.path))/\W'.cell? ⟨m,1,none⟩=some (.map (some b.ab)))/\(Instr.lookup 120 (.map (some b.ab)) (kQ e.key) false).run prog W'=.ok (.map (some n)) W') [8] (by kernel_rfl) ?_
  refine y45 ?_
  intro hS
  refine tL (v:=?_) 0 27 rfl (bb ⟨by rfl,?_⟩) ?_
  case refine_2 => exact z29
  try simp only [pS]
  refine tL (v:=?_) 1 28 rfl (bb ⟨by rfl,?_⟩) ?_
  case refine_2 => exact z29
  try simp only [pS]
  refine tL (v:=?_) 2 29 rfl (bb ⟨by rfl,?_⟩) ?_
  case refine_2 => exact z29
  try simp only [pS]
  refine tL (v:=?_) 3 30 rfl (bb ⟨by rfl,?_⟩) ?_
  case refine_2 => exact z29
  try simp only [pS]
  refine tL (v:=?_) 4 31 rfl (bb ⟨by rfl,?_⟩) ?_
  case refine_2 => exact z29
  try simp only [pS]
  refine tL (v:=?_) 5 32 rfl (bb ⟨by rfl,?_⟩) ?_
  case refine_2 => exact z29
  try simp only [pS]
  refine tL (v:=?_) 6 33 rfl (bb ⟨by rfl,?_⟩) ?_
  case refine_2 => exact z29
  try simp only [pS]
  refine tL (v:=?_) 7 34 rfl (bb ⟨by rfl,?_⟩) ?_
  case refine_2 => exact z29
  try simp only [pS]
  refine y67 ?_
  clear hS hl4 hrun5
  replace v7:=hK5.cell v7;replace v8:=hK5.cell v8;replace v9:=hK5.cell v9;replace y1:=hK5.cell y1;obtain ⟨L,hL⟩:∃ L,L=((atK s.pairs e.key).filter fun x=>decide (x≠d)):=⟨_,rfl⟩;rw [<- hL] at hD5;have HL:=aq hL;clear hL x0 x1 x2 v0 v1 v2 v6 hK5;go_upto_region 5 with fail
  refine aN (by kernel_rfl) (by kernel_rfl) (fun W hW=>?_);rw [hW.out];have x7:=fun i:After w5=>i.cell v7;have x8:=fun i:After w5=>i.cell v8;have x9:=fun i:After w5=>i.cell v9;have xm:=fun i:After w5=>i.cell y1;have hlen:=fun (i:After w5) ty=>(hD5.kept i.h).len underlying121 ty;simp only [ones,List.length_map] at hlen;clear hW;iterate 6 go_big_quiet_step (fail)
  refine gp (by rfl) _ (fun X hX=>by obtain ⟨i,rfl⟩:=hX;exact lF _ _ _ _ rfl _ ((hA5.kept i.h).look_hit BG underlying120 (z:=.map none) (by kernel_rfl) hnA false)) ?_;try simp only [pS]
  iterate 2 go_big_quiet_step (fail)
  refine wpQuiet_nil ?_;rintro _ ⟨i,rfl⟩;have hib:=i.h;generalize i.w=wi at hib ⊢;have HD5:=aq hD5;have HF5:=aq hf5;have HN:=aq hnA;have hA6:JA wi.drew b.ab s.A:=hA5.kept hib.drew;have z7:wi.drew.cell? _=_:=kept hib.drew v7;have z8:wi.drew.cell? _=_:=kept hib.drew v8;have z9:wi.drew.cell? _=_:=kept hib.drew v9;have z1:wi.drew.cell? _=_:=kept hib.drew y1;clear hD5 hf5 hnA hlen x7 x8 x9 xm v7 v8 v9 y1 hA5 h4;by_cases hL0:L=[]
  case neg =>
   have heq:((L.length:Nat) == 0)=false:=beq_eq_false_iff_ne.2 (fun e=>hL0 (List.eq_nil_of_length_eq_zero e));have heq2:((L.length:Int) == 0)=false:=beq_eq_false_iff_ne.2 (fun e=>hL0 (List.eq_nil_of_length_eq_zero (by omega)));have HL0:=aq hL0;clear hL0 hA6 z7 z8 z9 z1;go_wp2;all_goals
        go_end0;have hfin:=MpIn.kill_keep H4.out HN.out HPK.out (by have:=HD5.out;rw [HL.out] at this;exact this) (by have:=HL0.out;rw [HL.out] at this;exact this) HF5.out;exact ⟨rfl,s.A,hfin.kept_w hib,((HF4.out.mono (T:=foot b s.A) fun k _ hk=>by subst hk;exact jh b _).again (HF5.out.mono fun k _ hk=>by subst hk;exact lN b HN.out)).again (Fr.of_below hib),fun k hk=>bb hk⟩
  have heq:((L.length:Nat) == 0)=true:=by rw [hL0];rfl
  have heq2:((L.length:Int) == 0)=true:=by rw [hL0];rfl
  have HL0:=aq hL0;clear hL0;obtain ⟨r,hr⟩:=jV HN.out;have HRP:=aq hr;obtain ⟨w6,hrun6,hA7,hf6⟩:=Tab.drop_old BG (Tab.perm hA6 hr) underlying120 0;have H7:=aq (ba hA7 hf6.undrew);clear hr hA7 hf6 hA6;go_upto_region 6 with fail
  refine y36 ?_
  intro hS
  refine tL (v:=?_) 0 44 rfl (bb ⟨by rfl,?_⟩) ?_
  case refine_2 => exact z43
  try simp only [pS]
  refine tL (v:=?_) 1 45 rfl (bb ⟨by rfl,?_⟩) ?_
  case refine_2 => exact z43
  try simp only [pS]
  refine tL (v:=?_) 2 46 rfl (bb ⟨by rfl,?_⟩) ?_
  case refine_2 => exact z43
  try simp only [pS]
  refine tL (v:=?_) 3 47 rfl (bb ⟨by rfl,?_⟩) ?_
  case refine_2 => exact z43
  try simp only [pS]
  refine tL (v:=?_) 4 48 rfl (bb ⟨by rfl,?_⟩) ?_
  case refine_2 => exact z43
  try simp only [pS]
  refine tL (v:=?_) 5 49 rfl (bb ⟨by rfl,?_⟩) ?_
  case refine_2 => exact z43
  refine y48 ?_
  refine y8 ?_
  clear hS hrun6 z7 z8 z9 z1
  go_wp2;all_goals
   go_end0;have hfn:Fr (fun i=>i=n\/i=b.ab) W4 w6:=((HF5.out.mono (T:=fun i=>i=n\/i=b.ab) fun k _ hk=>bb hk).again (Fr.of_below hib)).again (H7.out.2.mono fun k _ hk=>bd hk);have hfin:=MpIn.kill_drop H4.out HN.out HPK.out HRP.out H7.out.1 (by have:=HL0.out;rw [HL.out] at this;exact this) hfn;exact ⟨rfl,r,hfin,(HF4.out.mono (T:=foot b s.A) fun k _ hk=>by subst hk;exact jh b _).again (hfn.mono fun k _ hk=>by rcases hk with rfl | rfl;exact lN b HN.out;exact iO b _),fun k hk=>bb (by
        simp only [foot,blocks,List.mem_cons,List.mem_map] at hk ⊢;rcases hk with hk | hk | hk | hk | ⟨p,hp,hk⟩
        ·exact bb hk
        ·exact bd (bb hk)
        ·exact bd (bd (bb hk))
        ·exact bd (bd (bd (bb hk)))
        ·exact bd (bd (bd (bd ⟨p,HRP.out.mem_iff.2 (List.mem_cons_of_mem _ hp),hk⟩))))⟩
 ·have hno:∀ p∈s.A,p.1≠e.key:=fun p hp e2=>hex ⟨p.2,by rw [<- e2];exact hp⟩
  have HE:Hid (strike s.pairs d=s.pairs):=su (fun k hk=>by
   obtain rfl:=HPK.out k hk;obtain ⟨n,hn⟩:=H4.out.keys _ hk;exact hno _ hn rfl)
  have hl4:(Instr.lookup 120 (.map (some b.ab)) (kQ e.key) false).run prog W4.drew=.ok (.map none) W4.drew:=Tab.look_miss (w:=W4.drew) BG h4.alive underlying120 (z:=.map none) (by kernel_rfl) hkw hno false;have hrun5:=Maps.drop_nil (w:=W4.drew) jE.law underlying121 (jE.lit hd) 0;refine wp_region_noPanic ?_;refine bH (fun W'=>((W'.cell? ⟨w.heap.size,0,none⟩=some (.int .i64 d.a.dev)/\W'.cell? ⟨w.heap.size,1,none⟩=some (.int .i64 d.a.inc)/\W'.cell? ⟨w.heap.size,2,none⟩=some (.int .i64 d.seq))/\(W'.cell? ⟨w2.heap.size,7,none⟩=some (.string e.key.name)/\W'.cell? ⟨w2.heap.size,8,none⟩=some (.string e.key.domain)/\W'.cell? ⟨w2.heap.size,9,none⟩=some (.string e.key.path))/\W'.cell? ⟨m,1,none⟩=some (.map (some b.ab)))/\(Instr.lookup 120 (.map (some b.ab)) (kQ e.key) false).run prog W'=.ok (.map none) W') [8] (by kernel_rfl) ?_
  refine y45 ?_
  intro hS
  refine tL (v:=?_) 0 27 rfl (bb ⟨by rfl,?_⟩) ?_
  case refine_2 => exact z29
  try simp only [pS]
  refine tL (v:=?_) 1 28 rfl (bb ⟨by rfl,?_⟩) ?_
  case refine_2 => exact z29
  try simp only [pS]
  refine tL (v:=?_) 2 29 rfl (bb ⟨by rfl,?_⟩) ?_
  case refine_2 => exact z29
  try simp only [pS]
  refine tL (v:=?_) 3 30 rfl (bb ⟨by rfl,?_⟩) ?_
  case refine_2 => exact z29
  try simp only [pS]
  refine tL (v:=?_) 4 31 rfl (bb ⟨by rfl,?_⟩) ?_
  case refine_2 => exact z29
  try simp only [pS]
  refine tL (v:=?_) 5 32 rfl (bb ⟨by rfl,?_⟩) ?_
  case refine_2 => exact z29
  try simp only [pS]
  refine tL (v:=?_) 6 33 rfl (bb ⟨by rfl,?_⟩) ?_
  case refine_2 => exact z29
  try simp only [pS]
  refine tL (v:=?_) 7 34 rfl (bb ⟨by rfl,?_⟩) ?_
  case refine_2 => exact z29
  try simp only [pS]
  refine y67 ?_
  clear hS hl4 hrun5 x0 x1 x2 v0 v1 v2 v6 hex
  go_upto_region 5 with fail
  refine aN (by kernel_rfl) (by kernel_rfl) (fun W hW=>?_);rw [hW.out];have x7:=fun i:After W4.drew=>i.cell v7;have x8:=fun i:After W4.drew=>i.cell v8;have x9:=fun i:After W4.drew=>i.cell v9;have xm:=fun i:After W4.drew=>i.cell y1;have hlen:=fun (i:After W4.drew) ty=>Maps.len_nil (w:=i.w) (P:=prog) underlying121 ty;clear hW;iterate 6 go_big_quiet_step (fail)
  refine gp (by rfl) _ (fun X hX=>by obtain ⟨i,rfl⟩:=hX;exact lF _ _ _ _ rfl _ ((Tab.kept (w:=W4.drew) h4.alive i.h).look_miss BG underlying120 (z:=.map none) (by kernel_rfl) hkw hno false)) ?_;try simp only [pS]
  iterate 2 go_big_quiet_step (fail)
  refine wpQuiet_nil ?_;rintro _ ⟨i,rfl⟩;have hib:=i.h;generalize i.w=wi at hib ⊢;have hib:Below W4.heap.size W4 wi:=xP hib;have hA6:JA wi.drew b.ab s.A:=h4.alive.kept hib.drew;have z7:wi.drew.cell? _=_:=kept hib.drew v7;have z8:wi.drew.cell? _=_:=kept hib.drew v8;have z9:wi.drew.cell? _=_:=kept hib.drew v9;have z1:wi.drew.cell? _=_:=kept hib.drew y1;obtain ⟨w6,hrun6,hA7,hf6⟩:=Tab.drop_miss BG hA6 underlying120 0 hkw hno;have H7:=aq (ba hA7 hf6.undrew);clear hA7 hf6 hA6 hlen x7 x8 x9 xm v7 v8 v9 y1 h4;go_upto_region 6 with fail
  refine y36 ?_
  intro hS
  refine tL (v:=?_) 0 44 rfl (bb ⟨by rfl,?_⟩) ?_
  case refine_2 => exact z43
  try simp only [pS]
  refine tL (v:=?_) 1 45 rfl (bb ⟨by rfl,?_⟩) ?_
  case refine_2 => exact z43
  try simp only [pS]
  refine tL (v:=?_) 2 46 rfl (bb ⟨by rfl,?_⟩) ?_
  case refine_2 => exact z43
  try simp only [pS]
  refine tL (v:=?_) 3 47 rfl (bb ⟨by rfl,?_⟩) ?_
  case refine_2 => exact z43
  try simp only [pS]
  refine tL (v:=?_) 4 48 rfl (bb ⟨by rfl,?_⟩) ?_
  case refine_2 => exact z43
  try simp only [pS]
  refine tL (v:=?_) 5 49 rfl (bb ⟨by rfl,?_⟩) ?_
  case refine_2 => exact z43
  refine y48 ?_
  refine y8 ?_
  clear hS hrun6 z7 z8 z9 z1
  go_wp2;all_goals
   go_end0;have hfin:=(H4.out.kept_w hib).setAlive H7.out.1 H7.out.2;exact ⟨rfl,s.A,by (show MpIn w6 m b { s with dead:=mM d s.dead,pairs:=strike s.pairs d });rw [HE.out];exact hfin,((HF4.out.mono (T:=foot b s.A) fun k _ hk=>by subst hk;exact jh b _).again (Fr.of_below hib)).again (H7.out.2.mono fun k _ hk=>by subst hk;exact iO b _),fun k hk=>bb hk⟩
end Go.Proofs.YthphepeniaemoaaGreat
