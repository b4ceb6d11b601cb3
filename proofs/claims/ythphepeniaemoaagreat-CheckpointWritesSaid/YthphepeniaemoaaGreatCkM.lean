/- made of the checkpoint's law: a snapshot of events, and the reference's. Conditions: as in the text. -/
import Derived.Test.YthphepeniaemoaaGreatIsB
import Derived.Test.YthphepeniaemoaaGreatCkR
import Derived.Test.YthphepeniaemoaaGreatLast
set_option linter.unusedSimpArgs false
set_option linter.unusedVariables false
set_option linter.unnecessarySimpa false
set_option maxHeartbeats 16000000
set_option maxRecDepth 100000
open Go.Proofs.Tryz
namespace Go.Proofs.YthphepeniaemoaaGreat
open Go.RowKit
/-- a block whose numbers are all zero, the first one at its head -/
structure ZBlk (w:World) (R:Nat):Prop where
 zero:∀ o k n,w.cell? ⟨R,o,none⟩=some (.int k n)->n=0
 head:∃ rest t f,w.heap[R]?=some (.cells (Value.int .i64 0 :: rest).toArray t f)
theorem ZBlk.of {w:World} {R:Nat} {rest:List Value} {t:TypeId} {f:Nat×Nat} (h:w.heap[R]?=some (.cells (Value.int .i64 0 :: rest).toArray t f)) (hr:∀ k n,Value.int k n∈rest->n=0):ZBlk w R:=by
 refine ⟨fun o k n hc=>?_,rest,t,f,h⟩;simp only [World.cell?,h] at hc;have hm:Value.int k n∈(Value.int .i64 0 :: rest):=by
  have h2:(Value.int .i64 0 :: rest)[o]?=some (.int k n):=by simpa using hc
  exact List.mem_of_getElem? h2
 rcases List.mem_cons.1 hm with h2 | h2
 ·cases h2;rfl
 ·exact hr k n h2
theorem ER {d:Dot} (h:bn d=true):1<=d.seq:=by
 unfold bn at h;simp only [Bool.and_eq_true,decide_eq_true_eq] at h;exact h.2.1
theorem yG {e:Ev} (h:dm e=true):bn e.dot=true/\∀ x∈e.over,bn x=true:=by
 unfold dm overOk at h;simp only [Bool.and_eq_true] at h;exact ⟨h.1,Bd h.2.2.2.1.2⟩
section
variable {w w':World} {RS:Nat->Prop}
theorem z135 {p : Prop} (h : p := by exact bd ⟨A, off, h1, ⟨fun i hi => hkc _ _ (h2.dev i hi), fun i hi => hkc _ _ (h2.inc i hi), fun i hi => hkc _ _ (h2.seq i hi)⟩⟩) : p := h
theorem DotsIn.notZ {a:Option Addr} {l:List Dot} (h:DotsIn w a l) (hl:∀ d∈l,bn d=true) (hR:∀ k,RS k->ZBlk w k) (hk:∀ k,¬ RS k->w'.heap[k]?=w.heap[k]?):DotsIn w' a l:=by
 rcases h with h | ⟨A,off,h1,h2⟩
 ·exact bb h
 by_cases hne:l=[]
 ·exact bb hne
 have h0:0<l.length:=List.length_pos_iff.2 hne;have hA:¬ RS A:=fun hA=>by
  have h3:=(hR A hA).zero _ _ _ (h2.seq 0 h0);have h4:=ER (hl _ (List.getElem_mem h0));omega
 have hkc:∀ o n,w.cell? ⟨A,o,none⟩=some (.int .i64 n)->w'.cell? ⟨A,o,none⟩=some (.int .i64 n):=fun o n hc=>(World.cell?_of_block (hk A hA)).trans hc
 exact z135
theorem EvsIn.notZ {a:Option Addr} {ls:List EvIt} (h:EvsIn w a ls) (hl:∀ x∈ls,dm x.1=true) (hR:∀ k,RS k->ZBlk w k) (hk:∀ k,¬ RS k->w'.heap[k]?=w.heap[k]?):EvsIn w' a ls:=by
 refine ⟨h.rows.imp id fun ⟨A,off,h1,h2⟩=>⟨A,off,h1,fun i hi j v hv=>?_⟩,fun x hx=>(h.dots x hx).notZ (yG (hl x hx)).2 hR hk⟩;have hA:¬ RS A:=fun hA=>by
  have h3:=(hR A hA).zero _ _ _ (h2 i hi 2 _ rfl);have h4:=ER (yG (hl _ (List.getElem_mem hi))).1;omega
 exact (World.cell?_of_block (hk A hA)).trans (h2 i hi j v hv)
theorem RMIn.notZ {x:RMIt} (h:RMIn w x) (h1:∀ d∈x.ctx,bn d=true) (h2:∀ z∈x.K,dm z.1=true) (h3:∀ d∈x.dead,bn d=true) (hR:∀ k,RS k->ZBlk w k) (hk:∀ k,¬ RS k->w'.heap[k]?=w.heap[k]?):RMIn w' x :=
 ⟨h.ctx.notZ h1 hR hk,h.kept.notZ h2 hR hk,h.dead.notZ h3 hR hk,h.cc,h.cK,h.cd⟩
theorem MpIn.notZ {m:Nat} {b:MB} {s:MS} (h:MpIn w m b s) (hi:MInv s) (hRf:∀ k,foot b s.A k->¬ RS k) (hR:∀ k,RS k->ZBlk w k) (hk:∀ k,¬ RS k->w'.heap[k]?=w.heap[k]?):MpIn w' m b s:=by
 have hm:¬ RS m:=fun e=>by
  obtain ⟨rest,t,f,hh⟩:=(hR m e).head;have:=h.cell;rw [hh] at this;simp at this
 have hv:¬ RS b.v:=fun e=>by
  obtain ⟨rest,t,f,hh⟩:=(hR b.v e).head;have:=h.vec.cell;rw [hh] at this;simp at this
 exact ⟨(hk m hm).trans h.cell,h.vec.block (hk _ hv) (hk _ (hRf _ (uy b _))),h.kept.block (hk _ (hRf _ (jT b _))),fun x hx=>(h.overs x hx).notZ (yG (hi.kept x hx).1).2 hR hk,h.dead.block (hk _ (hRf _ (jh b _))),h.alive.block (hk _ (hRf _ (iO b _))),fun p hp=>(h.inner p hp).block (hk _ (hRf _ (lN b hp))),h.some,h.keys,h.nodup⟩
/-- what the reference's map of events holds may be -/
theorem Rel.oks {s:MS} {y:RMIt} (hr:Rel s y.rm) (hi:MInv s):(∀ d∈y.ctx,bn d=true)/\(∀ z∈y.K,dm z.1=true)/\∀ d∈y.dead,bn d=true:=by
 refine ⟨fun d hd=>hi.ctxOk d (by have h:y.ctx=s.ctx:=hr.ctx;rw [<- h];exact hd),fun z hz=>?_,fun d hd=>hi.dead d (fV.1 (by have h:y.dead=sortD s.dead:=hr.dead;rw [<- h];exact hd))⟩;have h9:z.1∈bU s:=by have h:evsOf y.K=bU s:=hr.kept;rw [<- h];exact List.mem_map_of_mem hz
 obtain ⟨q,hq,e⟩:=(gG hr.nd).1 h9;rw [<- e];exact (hi.kept q hq).1
theorem MadeIn.turn {m:Nat} {b:MB} {s:MS} {y:RMIt} {l:List Ev} {base:Nat} (h:MadeIn w m b s y l base) (hRf:∀ k,foot b s.A k->¬ RS k) (hR:∀ k,RS k->ZBlk w k) (hk:∀ k,¬ RS k->w'.heap[k]?=w.heap[k]?):MadeIn w' m b s y l base:=by
 obtain ⟨h1,h2,h3⟩:=h.rel.oks h.inv;exact ⟨h.map.notZ h.inv hRf hR hk,h.inv,h.ref.notZ h1 h2 h3 hR hk,h.rel,h.good,h.ctx,h.dead,h.low,h.merged⟩
end
theorem ret_two {P:Program} {fn:Func} {R:Ending->World->Prop} {a:Act} {w:World} (p p2:Tmp) (ty ty2 t t2:TypeId) (g g2:Nat) (c c2:Array Value) (d d2:TypeDesc) (hr:fn.results=#[.cell p ty,.cell p2 ty2])
 (hp:a.tmps.getD p undef=.pointer (some ⟨g,0,none⟩)) (hp2:a.tmps.getD p2 undef=.pointer (some ⟨g2,0,none⟩)) (hg:w.heap[g]?=some (.cells c t (0,0))) (hg2:w.heap[g2]?=some (.cells c2 t2 (0,0)))
 (hu:P.underlying ty=some d) (hd:d.isRow=true) (hi:(P.info? ty).map (·.size)=some c.size) (hu2:P.underlying ty2=some d2) (hd2:d2.isRow=true) (hi2:(P.info? ty2).map (·.size)=some c2.size)
 (hde:a.defers=[]) (hR:R (.returned (.tuple #[.agg c,.agg c2])) w):bodyPost P fn R .ret a w:=by
 have h1:w.rangeAt g 0 c.toList:=fun j v hv=>by
  exact z102
 have h1b:w.rangeAt g2 0 c2.toList:=fun j v hv=>by
  rw [aw];simp only [World.cell?,hg2];simpa using hv
 have h2:=run_loadVar_mid (P:=P) w g 0 ty c.toList d h1 hu hd (by simpa using hi);have h3:=run_loadVar_mid (P:=P) w g2 0 ty2 c2.toList d2 h1b hu2 hd2 (by simpa using hi2);refine bodyPost_ret ?_ hde hR;have hp':a.tmps[p]?.getD undef=.pointer (some ⟨g,0,none⟩):=by simpa using hp
 have hp2':a.tmps[p2]?.getD undef=.pointer (some ⟨g2,0,none⟩):=by simpa using hp2
 simp [results,hr,hp',hp2',asAddr,h2,h3,Sem.run_bind,Result.andThen]
theorem Dp (w:World) (c c':Array Value) (t:TypeId) (o:Obj):((w.alloc (.cells c t)).alloc o).setRow w.heap.size c'=(w.alloc (.cells c' t)).alloc o:=by
 simp only [World.setRow,World.alloc];congr 1
 apply Array.ext_getElem?;intro i;rw [Array.getElem?_modify];by_cases h:w.heap.size=i
 ·subst h
  simp [Array.getElem?_push]
 ·rw [if_neg h,Array.getElem?_push,Array.getElem?_push (xs:=w.heap.push (.cells c' t))]
  simp only [Array.size_push];by_cases h2:i=w.heap.size+1
  ·rw [if_pos h2,if_pos h2]
  ·rw [if_neg h2,if_neg h2,Array.getElem?_push,Array.getElem?_push,if_neg (fun e=>h e.symm),if_neg (fun e=>h e.symm)]
theorem ww {P:Program} {ops:Array Oper} {rest:List Oper} {a:Act} {w:World} {Q:Exit->Act->World->Prop} {type:TypeId} {pos:String} {after:Array Edge} (ty:TypeId) (x y:Operand) (c c':Array Value) (o:Obj)
 (hx:a.eval x=.pointer (some ⟨w.heap.size,0,none⟩)) (hy:a.eval y=.agg c') (hi:(P.info? ty).map (·.size)=some c'.size) (hold:c.size=c'.size) (h1:c'.all (·.oneCell')=true)
 (h:wpList P ops Q rest a ((w.alloc (.cells c' ty)).alloc o)):wpList P ops Q (⟨none,.store ty x y,type,pos,after,none⟩ :: rest) a ((w.alloc (.cells c ty)).alloc o):=by
 refine wpList_store_row rfl ty x y rfl w.heap.size c' hx hy ty c ?_ hi hold h1 ?_
 ·rw [Below.heap_alloc _ _ _ (by simp)];exact heap_alloc_last w _
 ·rw [Dp];exact h
theorem zq {P:Program} {o:Oper} {a:Act} {w:World} (t:TypeId) (parts:Array (Nat×Operand)) (ho:o.op=.build t parts) (cells:Array Value) (hf:P.built t (parts.map fun (i,x)=>(i,a.eval x)).toList=some cells):(execOp a.eval o).run P w=.ok (.value (.agg cells)) w:=by
 unfold execOp;simp only [ho,Sem.run_bind,run_build w t _ cells hf,Result.andThen_ok,Sem.run_pure]
def Ro (d i:Int) (st:Stamp) (l:List Ev) (w:World) (e:Ending) (w':World):Prop:=∃ m b s y,e=.returned (.tuple #[.agg (snA d i st (.pointer (some ⟨m,0,none⟩))),.agg (rkA d i st y)])/\MadeIn w' m b s y l w.heap.size/\Below w.heap.size w w'
theorem MM (w:World) (R:Nat) (cs:Array Value):Fr (fun k=>k=R) w (w.setRow R cs):=⟨rfl,rfl,rfl,by simp [World.setRow],fun k _ hk=>bi _ _ _ _ (fun e=>hk e.symm)⟩
theorem wQ {S:Nat->Prop} {w w':World} {b off:Nat} {l:List Value} (h:w.rangeAt b off l) (hf:Fr S w w') (hb:¬ S b):w'.rangeAt b off l:=fun j v hv=>hf.kept (h j v hv) hb
theorem z90 {p : Prop} (h : p := by (intro w9 hSw; go_simp; try with_reducible rfl)) : p := h
theorem Oc (d i:Int) (st:Stamp) (a:Option Addr) (cap:Nat) (ls:List EvIt) (w:World) (hl:ls.length<=4095) (hE:EvsIn w a ls) (hsm:EvsSmall ls) :
 Calls prog 10 #[.agg (snA d i st (.slice a ls.length cap))] w (Ro d i st (evsOf ls) w):=by
 have HN:=aq (fun X=>Bo X);have HFo:=aq (fun (X:World) (hE:EvsIn X a ls)=>NL a cap ls X hl hE hsm);have HSM:=aq hsm;go_enter func10,ntmps10;go_upto_region 1 with fail
 refine aI (fun W0 hW0=>?_);have hb0:Below w.heap.size w W0:=by rw [hW0.out];go_grown
 have hs0:w.heap.size+3<=W0.heap.size:=by rw [hW0.out];simp
 have r0:W0.rangeAt w.heap.size 0 (lU d i st (.slice a ls.length cap)):=by
  rw [hW0.out];exact ai (ai (uK d i st (.slice a ls.length cap) w _) ((bh _ _).alloc (ar _) _)) ((bh _ _).alloc (ar _) _)
 have x0:W0.heap[w.heap.size+1]?=some (.cells (snA 0 0 ⟨0,0,0⟩ (.pointer none)) 42 (0,0)):=by
  rw [hW0.out];exact (((bh _ _).alloc (ar _) _).block _ (by simp)).trans (eY _ _ _)
 have y0:W0.heap[w.heap.size+2]?=some (.cells rkZ 48 (0,0)):=by
  rw [hW0.out];have h9:=aY ((w.alloc (.cells (snA d i st (.slice a ls.length cap)) 35)).alloc (.cells (snA 0 0 ⟨0,0,0⟩ (.pointer none)) 42)) (.cells rkZ 48);rw [show ((w.alloc (.cells (snA d i st (.slice a ls.length cap)) 35)).alloc (.cells (snA 0 0 ⟨0,0,0⟩ (.pointer none)) 42)).heap.size=w.heap.size+2 by simp] at h9;exact h9
 clear hW0;go_upto_region 2 with (go_at_call 19;(with_reducible refine (HN.out _).mono ?_);rintro x w1 ⟨m,b,rfl,hm,hb1,hlo,hfo⟩)
 have r1:=ai r0 hb1;have x1:=(hb1.block _ (lt_of_block x0)).trans x0;have y1:=(hb1.block _ (lt_of_block y0)).trans y0;have Qz:Below w.heap.size w w1:=below2 hb0 hb1;have Xh:∀ k,foot b [] k->w.heap.size+3<=k:=fun k hk=>by have:=hfo k hk;omega
 clear hs0 hb1 hfo hlo HN r0 x0 y0 hb0;go_wp2;go_loopw [5] (fun ix wr=>∃ (k:Nat) (s:MS) (n:Nat) (f:Int),ix=.int .i64 k/\k<=ls.length/\MpIn wr m b s/\Merged MS.empty ((evsOf ls).take k) s n f/\(∀ q,foot b s.A q->w.heap.size+3<=q)/\wr.rangeAt w.heap.size 0 (lU d i st (.slice a ls.length cap))/\wr.heap[w.heap.size+1]?=some (.cells (snA 0 0 ⟨0,0,0⟩ (.pointer none)) 42 (0,0))/\wr.heap[w.heap.size+2]?=some (.cells rkZ 48 (0,0))/\Below w.heap.size w wr) (fun ix _=>ls.length - (intOf ix).toNat)
 case atStart=>exact ⟨0,MS.empty,0,0,rfl,Nat.zero_le _,hm,Merged.nil,Xh,r1,x1,y1,Qz⟩
 case round =>
  obtain ⟨k,s,n,f,rfl,hk,hmr,hM,hfr,hRr,hXr,hYr,hbw⟩:=hrel;obtain ⟨hi,g1,g2,g3⟩:=hM.facts MInv.empty;rw [List.length_take,aW] at g1 g2 g3;have hMe:MS.empty.ctx.length=0/\MS.empty.dead.length=0:=⟨rfl,rfl⟩;have HM:=aq hM;have c5:wr.cell? ⟨w.heap.size,5,none⟩=some (.slice a ls.length cap):=hRr 5 _ rfl;by_cases hlt:k<ls.length
  ·obtain ⟨A,off,rfl,hra,hda⟩:=(hE.kept hbw).at hlt
   have r1:=hra k hlt;have hse:=HSM.out _ (List.getElem_mem hlt);have HT:Hid ((evsOf ls).take (k+1)=(evsOf ls).take k++[ls[k].1]):=by
        exact z92
   have HLT:=aq hlt;have hkl:k<=4095:=by omega
   generalize ls[k]=x at *;obtain ⟨e,ax,cx⟩:=x;simp only [qj] at r1;simp only at hda hse HT;have hn0:ax=none->e.over=[]:=fun hn=>by rcases hda with h | ⟨A,off,h3,_⟩;exact h;rw [hn] at h3;cases h3
   have HAp:=aq (Kz e ax cx wr hmr hi hse hda hn0 (by omega) (by omega));have HB:=aq (ba hbw (ba hfr (ba hRr (ba hXr (ba hYr hmr)))));clear hra hse hda hM hmr hfr hRr hXr hYr hi g1 g2 g3 hbw hn0;go_wp2_with (first
        | ((with_reducible refine dn _ A (off+k * 19) e ax cx r1 ?_ rfl ?_);exact rfl)
        | (go_at_call 22;(with_reducible refine HAp.out.mono ?_);rintro v w2 ⟨s2,rfl,hm2,hf2,VU,KT⟩))
   have HZ:Hid (MpIn w2 m b s2/\Merged MS.empty ((evsOf ls).take (k+1)) s2 (if jI s e=true then n+1 else n) (if f=0 then kZ s e else f)/\(∀ q,foot b s2.A q->w.heap.size+3<=q)/\w2.rangeAt w.heap.size 0 (lU d i st (.slice (some ⟨A,off,none⟩) ls.length cap))/\w2.heap[w.heap.size+1]?=some (.cells (snA 0 0 ⟨0,0,0⟩ (.pointer none)) 42 (0,0))/\w2.heap[w.heap.size+2]?=some (.cells rkZ 48 (0,0))/\Below w.heap.size w w2):=by
        obtain ⟨hbw,hfr,hRr,hXr,hYr,hmr⟩:=HB.out;have hly:=lt_of_block hYr;refine ⟨hm2,by rw [HT.out];exact Merged.snoc HM.out KT,fun q hq=>?_,wQ hRr hf2 (fun hq=>by have:=hfr _ hq;omega),(hf2.block _ (lt_of_block hXr) (fun hq=>by have:=hfr _ hq;omega)).trans hXr,(hf2.block _ hly (fun hq=>by have:=hfr _ hq;omega)).trans hYr,hbw.trans (hf2.below hbw.size (fun q hq=>by have:=hfr q hq;omega))⟩;rcases VU q hq with h3 | h3
        ·exact hfr q h3
        ·omega
   clear hm2 hf2 VU KT HAp r1 c5;go_roundw
   case rel=>exact ⟨k+1,s2,_,_,by go_num,HLT.out,HZ.out.1,HZ.out.2.1,HZ.out.2.2.1,HZ.out.2.2.2.1,HZ.out.2.2.2.2.1,HZ.out.2.2.2.2.2.1,HZ.out.2.2.2.2.2.2⟩
   case measure => exact z65
  ·obtain rfl:k=ls.length:=by omega
   have hM2:Merged MS.empty (evsOf ls) s n f:=by
        have:=HM.out;rwa [List.take_of_length_le (by rw [aW];exact ar _)] at this
   go_upto_region 6 with fail
   refine aI (fun V hV=>?_);have hbV:Below wr.heap.size wr V.drew:=by rw [hV.out];go_grown
   have vR:=ai hRr hbV;have vE:=(hE.kept hbw).kept hbV;have Xx:=aq (HFo.out V.drew vE);have vX:=(hbV.block _ (lt_of_block hXr)).trans hXr;have vY:=(hbV.block _ (lt_of_block hYr)).trans hYr;have Wi:=lt_of_block vY;have HB:=aq (ba (hbw.trans (hbV.mono hbw.size)) (ba hfr (ba (hmr.kept_w hbV) (ba hi hM2))));have v0:V.drew.cell? ⟨w.heap.size,0,none⟩=some (.int .i64 d):=vR 0 _ rfl;have v1:V.drew.cell? ⟨w.heap.size,1,none⟩=some (.int .i64 i):=vR 1 _ rfl;have v5:V.drew.cell? ⟨w.heap.size,5,none⟩=some (.slice a ls.length cap):=vR 5 _ rfl;have vS:=wG vR;clear hM hmr hfr hi hM2 HM g1 g2 g3 hV hbV hRr hXr hYr c5 hbw vE HFo HSM;refine wp_region_noPanic ?_;refine wp_region_held_drew (S:=fun W'=>Fr (fun k=>k=w.heap.size+1\/k=w.heap.size+2) V.drew W') (by kernel_rfl) (Fr.refl _ _) (fun hHeld=>?_);refine tH (v:=?_) 0 21 rfl (bb ⟨by rfl,?_⟩) ?_
   case refine_2 => exact z90
   try simp only [pS]
   refine tH (v:=?_) 1 22 rfl (bb ⟨by rfl,?_⟩) ?_
   case refine_2=>(intro w9 hSw;have s9:=hSw.kept v0 (by simp);go_simp;try with_reducible rfl)
   try simp only [pS]
   refine tH (v:=?_) 2 23 rfl (bb ⟨by rfl,?_⟩) ?_
   case refine_2 => exact z90
   try simp only [pS]
   refine tH (v:=?_) 3 24 rfl (bb ⟨by rfl,?_⟩) ?_
   case refine_2=>(intro w9 hSw;have s9:=hSw.kept v1 (by simp);go_simp;try with_reducible rfl)
   try simp only [pS]
   refine tH (v:=?_) 4 25 rfl (bb ⟨by rfl,?_⟩) ?_
   case refine_2 => exact z90
   try simp only [pS]
   refine tH 5 26 rfl (yieldsIf_load_mid (by rfl) 32 _ rfl w.heap.size 2 rfl (Fh st) _ (fun X h=>wQ vS h (by omega)) underlying32 rfl (by kernel_rfl)) ?_;try simp only [pS]
   refine tH (v:=?_) 6 27 rfl (bb ⟨by rfl,?_⟩) ?_
   case refine_2 => exact z90
   try simp only [pS]
   refine tH 7 28 rfl (bb ⟨by rfl,fun W hSW=>zq _ _ rfl (snA d i st (.pointer (some ⟨m,0,none⟩))) (by kernel_rfl)⟩) ?_;try simp only [pS]
   refine tH (v:=?_) 8 29 rfl (bb ⟨by rfl,?_⟩) ?_
   case refine_2 => exact z90
   try simp only [pS]
   refine tH (v:=?_) 9 30 rfl (bb ⟨by rfl,?_⟩) ?_
   case refine_2=>(intro w9 hSw;have s9:=hSw.kept v0 (by simp);go_simp;try with_reducible rfl)
   try simp only [pS]
   refine tH (v:=?_) 10 31 rfl (bb ⟨by rfl,?_⟩) ?_
   case refine_2 => exact z90
   try simp only [pS]
   refine tH (v:=?_) 11 32 rfl (bb ⟨by rfl,?_⟩) ?_
   case refine_2=>(intro w9 hSw;have s9:=hSw.kept v1 (by simp);go_simp;try with_reducible rfl)
   try simp only [pS]
   refine tH (v:=?_) 12 33 rfl (bb ⟨by rfl,?_⟩) ?_
   case refine_2 => exact z90
   try simp only [pS]
   refine tH 13 34 rfl (yieldsIf_load_mid (by rfl) 32 _ rfl w.heap.size 2 rfl (Fh st) _ (fun X h=>wQ vS h (by omega)) underlying32 rfl (by kernel_rfl)) ?_;try simp only [pS]
   refine tH (v:=?_) 14 35 rfl (bb ⟨by rfl,?_⟩) ?_
   case refine_2 => exact z90
   try simp only [pS]
   refine tH (v:=?_) 15 36 rfl (bb ⟨by rfl,?_⟩) ?_
   case refine_2=>(intro w9 hSw;have s9:=hSw.kept v5 (by simp);go_simp;try with_reducible rfl)
   try simp only [pS]
   refine rH 16 37 rfl fun K hK=>?_;go_simp;go_at_call 23;(with_reducible refine Xx.out.mono ?_)
   rintro v w5 ⟨y,rfl,hIn,hy,hb5⟩;go_simp;have hNext:Fr (fun k=>k=w.heap.size+1\/k=w.heap.size+2) V.drew w5:=Fr.of_below hb5
   refine y24 ?_
   clear hK K hHeld hNext
   intro hHeld
   refine tH 17 38 rfl (bb ⟨by rfl,fun W hSW=>zq _ _ rfl (rkA d i st y) (by kernel_rfl)⟩) ?_;try simp only [pS]
   have xX:=(hb5.block _ (lt_of_block vX)).trans vX;have xY:=(hb5.block _ Wi).trans vY;have hZ5:=Nat.lt_of_lt_of_le Wi hb5.size;refine wpAnyH_ready (rs:=[18]) (by kernel_rfl) (by simp) ?_;refine AllReadyH.cons (o:=⟨none,_,_,_,_,_⟩) rfl (fun K hK=>?_) AllReadyH.nil;refine dM (by rfl) 42 _ _ rfl (w.heap.size+1) (snA d i st (.pointer (some ⟨m,0,none⟩))) rfl rfl 42 _ xX (by kernel_rfl) rfl (by kernel_rfl) ?_;have hNext:Fr (fun k=>k=w.heap.size+1\/k=w.heap.size+2) V.drew (w5.setRow (w.heap.size+1) (snA d i st (.pointer (some ⟨m,0,none⟩)))):=hHeld.again ((MM _ _ _).mono fun k _ hk=>bb hk)
   refine y24 ?_
   clear hK K hHeld hNext
   intro hHeld
   have xY2:=(bi w5 (w.heap.size+1) (snA d i st (.pointer (some ⟨m,0,none⟩))) (w.heap.size+2) (by omega)).trans xY;refine wpAnyH_ready (rs:=[19]) (by kernel_rfl) (by simp) ?_;refine AllReadyH.cons (o:=⟨none,_,_,_,_,_⟩) rfl (fun K hK=>?_) AllReadyH.nil;refine dM (by rfl) 48 _ _ rfl (w.heap.size+2) (rkA d i st y) rfl rfl 48 _ xY2 (by kernel_rfl) rfl (by kernel_rfl) ?_;have hNext:Fr (fun k=>k=w.heap.size+1\/k=w.heap.size+2) V.drew ((w5.setRow (w.heap.size+1) (snA d i st (.pointer (some ⟨m,0,none⟩)))).setRow (w.heap.size+2) (rkA d i st y)):=hHeld.again ((MM _ _ _).mono fun k _ hk=>bd hk)
   refine y24 ?_
   clear hK K hHeld hNext
   intro hHeld
   refine wpAnyH_done (by kernel_rfl) ?_ _;refine NoPanic.normal ?_;go_wp2;obtain ⟨hbw,hfr,hmr,hi,hM2⟩:=HB.out;have q1:((w5.setRow (w.heap.size+1) (snA d i st (.pointer (some ⟨m,0,none⟩)))).setRow (w.heap.size+2) (rkA d i st y)).heap[w.heap.size+1]?=some (.cells (snA d i st (.pointer (some ⟨m,0,none⟩))) 42 (0,0)):=(bi _ _ _ _ (by omega)).trans (setRow_heap _ _ _ _ _ _ xX);have q2:((w5.setRow (w.heap.size+1) (snA d i st (.pointer (some ⟨m,0,none⟩)))).setRow (w.heap.size+2) (rkA d i st y)).heap[w.heap.size+2]?=some (.cells (rkA d i st y) 48 (0,0)):=setRow_heap _ _ _ _ _ _ xY2;have hRS:∀ k,¬ (k=w.heap.size+1\/k=w.heap.size+2)->((w5.setRow (w.heap.size+1) (snA d i st (.pointer (some ⟨m,0,none⟩)))).setRow (w.heap.size+2) (rkA d i st y)).heap[k]?=w5.heap[k]?:=fun k hk=>(bi _ _ _ _ (by omega)).trans (bi _ _ _ _ (by omega));refine ret_two 2 3 42 48 42 48 (w.heap.size+1) (w.heap.size+2) (snA d i st (.pointer (some ⟨m,0,none⟩))) (rkA d i st y) _ _ rfl rfl rfl q1 q2 underlying42 rfl (by kernel_rfl) underlying48 rfl (by kernel_rfl) rfl ?_;obtain ⟨_,g1,g2,_⟩:=hM2.facts MInv.empty;rw [hMe.1] at g1;rw [hMe.2] at g2;have hgood:=RMGood.empty.fold (evsOf ls);rw [<- hy,aw] at hgood;have hrel:=hM2.rel Rel.empty MInv.empty;rw [<- hy] at hrel;have h5:MadeIn w5 m b s y (evsOf ls) w.heap.size:=⟨hmr.kept_w hb5,hi,hIn,hrel,hgood,by omega,by omega,fun q hq=>by have:=hfr q hq;omega,⟨n,f,hM2⟩⟩;exact ⟨m,b,s,y,rfl,h5.turn (RS:=fun k=>k=w.heap.size+1\/k=w.heap.size+2) (fun k hk h=>by have:=hfr k hk;omega) (fun k hk=>by
        rcases hk with rfl | rfl
        ·exact ZBlk.of xX (by simp)
        ·exact ZBlk.of xY (by simp)) hRS,below_setRow (below_setRow (hbw.trans (hb5.mono hbw.size)) (by omega) _) (by omega) _⟩
end Go.Proofs.YthphepeniaemoaaGreat
