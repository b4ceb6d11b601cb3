/- The reference's map: Alive, Key. Conditions: as in the text. -/
import Derived.Test.YthphepeniaemoaaGreatRelP
import Derived.Test.YthphepeniaemoaaGreatWin
set_option linter.unusedSimpArgs false
set_option linter.unusedVariables false
set_option linter.unnecessarySimpa false
set_option maxHeartbeats 16000000
set_option maxRecDepth 100000
open Go.Proofs.Tryz
namespace Go.Proofs.YthphepeniaemoaaGreat
open Go.RowKit
def RY (L:List EvIt) (w:World) (e:Ending) (w':World):Prop:=∃ a cap,e=.returned (.slice a L.length cap)/\EvsIn w' a L/\(L.length<=cap/\w'.ownsRow w.heap.size 82 19 (.slice a L.length cap) L.length (aJ L))/\Below w.heap.size w w'
theorem FW {w w':World} {base n size:Nat} {e:TypeId} {v v2:Value} {xs:List Value} (h:w.ownsRow base e size v n xs) (hne:∀ g,v2.ownBlock=some g->v.ownBlock≠some g) (hg:w.grownBy w' v2.ownBlock):w'.ownsRow base e size v n xs:=by
 refine ⟨h.1,?_⟩;rcases h.2 with h2 | ⟨g,cap,cur,hv,hbs,hb,rest⟩
 ·exact .inl h2
 ·exact .inr ⟨g,cap,cur,hv,hbs,(hg.block g (lt_of_block hb) (fun e3=>hne g e3.symm (by rw [hv];rfl))).trans hb,rest⟩
theorem IZ {p:EvIt->Bool} {l:List EvIt} {k:Nat} (h:k<l.length) (hp:p l[k]=true):(l.take (k+1)).filter p=(l.take k).filter p++[l[k]]:=by
 rw [List.take_add_one,List.getElem?_eq_getElem h,List.filter_append];simp [hp]
theorem Nj {p:EvIt->Bool} {l:List EvIt} {k:Nat} (h:k<l.length) (hp:p l[k]=false):(l.take (k+1)).filter p=(l.take k).filter p:=by
 rw [List.take_add_one,List.getElem?_eq_getElem h,List.filter_append];simp [hp]
def iP (dead:List Dot) (z:EvIt):Bool:=decide (z.1.kind=1) && !decide (z.1.dot∈dead)
theorem z66 {p : Prop} (h : p := by
 refine wpQuiet_nil ?_
 rintro _ ⟨i, rfl⟩
 have hiA := i.h
 generalize i.w = wp at hiA ⊢
 have hbY : Below wr.heap.size wr wp := below2 hbA hiA
 clear hbA hiA hdA pc1 pc2 pq0 pq1 pq2 pq6
 have HZ : Hid (wp.ownsRow W0.heap.size 82 19 u ((L.take (k + 1)).filter p).length (aJ ((L.take (k + 1)).filter p)) /\ Below W0.heap.size W0 wp) := by
  refine ⟨?_, hB.trans (hbY.mono hzr)⟩
  rw [HS.out]
  exact ownsRow_below hown hbY
 clear hown hbY
 exact z40) : p := h
theorem y7 {p q : Prop} (k : q) (h : PLift q -> p := by
 intro kk
 refine y62 ?_
 intro WA hWA hbA
 have pc1 : ∀ i : After WA, i.w.cell? ⟨w.heap.size, 1, none⟩ = some (.slice (some ⟨A, off, none⟩) L.length x.cK) := fun i => i.cell (kept hbA c1)
 have pc2 : ∀ i : After WA, i.w.cell? ⟨w.heap.size, 2, none⟩ = some (.slice x.ad x.dead.length x.cd) := fun i => i.cell (kept hbA c2)
 have pq0 : ∀ i : After WA, i.w.cell? ⟨A, off + k * 19, none⟩ = some (.int .i64 e.dot.a.dev) := fun i => i.cell (kept hbA q0)
 have pq1 : ∀ i : After WA, i.w.cell? ⟨A, off + k * 19 + 1, none⟩ = some (.int .i64 e.dot.a.inc) := fun i => i.cell (kept hbA q1)
 have pq2 : ∀ i : After WA, i.w.cell? ⟨A, off + k * 19 + 2, none⟩ = some (.int .i64 e.dot.seq) := fun i => i.cell (kept hbA q2)
 have pq6 : ∀ i : After WA, i.w.cell? ⟨A, off + k * 19 + 6, none⟩ = some (.int .i64 e.kind) := fun i => i.cell (kept hbA q6)
 have hdA := hdr.kept hbA
 revert WA hWA hbA pc1 pc2 pq0 pq1 pq2 pq6 hdA
 exact kk.down) : p := h ⟨k⟩
theorem qp (x:RMIt) (w:World) (hK:x.K.length<=4096) (hdl:x.dead.length<=1048576) (hI:RMIn w x) :
 Calls prog 99 #[pg x] w (RY (x.K.filter (iP x.dead)) w):=by
 obtain ⟨i0,hiE,hz0,hz1,hz2⟩:=info_parts Tryz.infoEv;have HH:=aa (fun (d:Dot) (X:World) (h:DotsIn X x.ad x.dead)=>Oe x.ad x.cd x.dead d X (by omega) h);obtain ⟨p,hp⟩:∃ p,p=iP x.dead:=⟨_,rfl⟩;rw [<- hp];have HP:=aa hp;clear hp;obtain ⟨L,hL⟩:∃ L,L=x.K:=⟨_,rfl⟩;go_enter func99,ntmps99;go_upto_region 1 with fail
 refine aN (fun W0 hW0=>?_);have hb0:Below w.heap.size w W0:=by rw [hW0.out];go_grown
 have C1:W0.cell? ⟨w.heap.size,1,none⟩=some (.slice x.aK x.K.length x.cK):=by rw [hW0.out];go_simp
 have C2:W0.cell? ⟨w.heap.size,2,none⟩=some (.slice x.ad x.dead.length x.cd):=by rw [hW0.out];go_simp
 have hE0:=hI.kept.kept hb0;have hd0:=hI.dead.kept hb0;have hz0':=hb0.size;clear hW0 hI;go_wp2;have hown0:(W0.alloc (Obj.cells #[] 82)).ownsRow W0.heap.size 82 19 (.slice (some ⟨W0.heap.size,0,none⟩) 0 0) 0 []:=World.ownsRow_made _ _ _ (aq _) (by decide) rfl;have hbM:Below W0.heap.size W0 (W0.alloc (Obj.cells #[] 82)):=(bb _ _).alloc (aq _) _;rw [<- hL] at hE0 hK ⊢;have HLe:=aa hL;have hLl:L.length=x.K.length:=by rw [hL]
 rw [<- hLl] at C1;clear hL hLl;go_loopw [3,4] (fun u i wr=>∃ k:Nat,i=.int .i64 k/\k<=L.length/\wr.ownsRow W0.heap.size 82 19 u ((L.take k).filter p).length (aJ ((L.take k).filter p))/\Below W0.heap.size W0 wr) (fun _ i _=>L.length - (intOf i).toNat)
 case atStart=>exact ⟨0,rfl,Nat.zero_le _,hown0,hbM⟩
 case round =>
  obtain ⟨k,rfl,hk,hown,hB⟩:=hrel;clear hown0 hbM;have c1:=kept hB C1;have c2:=kept hB C2;have hzr:=hB.size;have hfl:((L.take k).filter p).length<=4096:=by
   have h1:=List.length_filter_le p (L.take k);rw [List.length_take] at h1;omega
  obtain ⟨u,hu⟩:∃ u,u=u3:=⟨_,rfl⟩;rw [<- hu] at hown ⊢;clear hu;by_cases hlt:k<L.length
  ·obtain ⟨A,off,haK,hra,_⟩:=(hE0.kept hB).at hlt
   rw [haK] at c1;have r1:=hra k hlt;have HY:=aa (fun h=>IZ (p:=p) hlt h);have HN:=aa (fun h=>Nj (p:=p) hlt h);have HLT:=aa hlt;have hkl:k<=4096:=by omega
   have HH1:=fun (X:World) (h:DotsIn X x.ad x.dead)=>HH.out L[k].1.dot X h;generalize L[k]=z at *;obtain ⟨e,ax,cx⟩:=z;simp only [kT] at r1;simp only at HH1;have q0:=r1 0 _ rfl;have q1:=r1 1 _ rfl;have q2:=r1 2 _ rfl;have q6:=r1 6 _ rfl;simp only [Nat.add_zero] at q0;have hdr:=hd0.kept hB;clear hra haK;by_cases hk1:e.kind=1
   ·have hkb:(e.kind == 1)=true:=beq_iff_eq.2 hk1
    by_cases hde:e.dot∈x.dead
    ·rw [aR hde] at HH1
     have HS:Hid ((L.take (k+1)).filter p=(L.take k).filter p):=HN.out (by rw [HP.out];show (decide (e.kind=1) && !decide (e.dot∈x.dead))=false;rw [aR hde,Bool.not_true,Bool.and_false]);clear hde hk1;go_upto_region 5 with fail
     refine y7 ?_
     intro WA hWA hbA pc1 pc2 pq0 pq1 pq2 pq6 hdA
     clear hWA
     iterate 16 go_big_quiet_step (fail)
     go_big_quiet_step (exact Calls.after (HH1 _ (hdA.kept (After.h _))))
     iterate 2 go_big_quiet_step (fail)
     exact z66
    ·rw [aM hde] at HH1
     have HS:Hid ((L.take (k+1)).filter p=(L.take k).filter p++[(e,ax,cx)]):=HY.out (by rw [HP.out];show (decide (e.kind=1) && !decide (e.dot∈x.dead))=true;rw [aR hk1,aM hde];rfl);clear hde hk1;go_upto_region 5 with fail
     refine y7 ?_
     intro WA hWA hbA pc1 pc2 pq0 pq1 pq2 pq6 hdA
     clear hWA
     iterate 16 go_big_quiet_step (fail)
     go_big_quiet_step (exact Calls.after (HH1 _ (hdA.kept (After.h _))))
     iterate 2 go_big_quiet_step (fail)
     refine wpQuiet_nil ?_;rintro _ ⟨i,rfl⟩;have hiA:=i.h;generalize i.w=wp at hiA ⊢;have hbY:Below wr.heap.size wr wp:=below2 hbA hiA;clear hbA hiA hdA pc1 pc2 pq0 pq1 pq2 pq6;have c5:=kept hbY c1;have R5:=ai r1 hbY;have hown5:=ownsRow_below hown hbY;replace hB:=hB.trans (hbY.mono hzr);have hz5:=hB.size;clear r1 hown hbY c1;go_wp2_with (first
      | ((with_reducible refine bu _ A (off+k * 19) e ax cx R5 ?_ rfl ?_);exact rfl)
      | (refine wpList_buildOne rfl 33 82 _ rfl (ah e ax cx).toArray 19 rfl rfl (by decide) (by decide) underlying33 (by kernel_rfl) (by kernel_rfl) ?_)
      | (at_builtin;go_loud (refine wpList_append_own_at _ rfl _ _ 33 rfl W0.heap.size 82 i0 (.agg (ah ev0 none 0).toArray) 19 176 underlying33 hiE hz0 hz1 hz2 rfl (by decide) _ _ _ rfl (hown5.alloc _) ⟨wp.heap.size,0,none⟩ 1 1 (ah e ax cx) rfl rfl (wX wp e ax cx _) (df _ _ _) (by unfold maxLen;omega) (by omega) (by simp;omega) ?_)))
     intro v' wf mV hgrow _ hat;have hal:Below wp.heap.size wp (wp.alloc (Obj.cells (ah e ax cx).toArray 82)):=(bb _ _).alloc (aq _) _;have hbF:Below W0.heap.size W0 wf:=(hB.trans (hal.mono hz5)).grown hgrow (by have:=hal.size;omega) (fun j hj=>(hown5.lt j hj).1);have HZ:Hid (wf.ownsRow W0.heap.size 82 19 v' ((L.take (k+1)).filter p).length (aJ ((L.take (k+1)).filter p))/\Below W0.heap.size W0 wf):=by
      refine ⟨?_,hbF⟩;rw [HS.out,kX,ar];exact mV
     clear mV hgrow hat hal hbF hown5 R5 c5
     exact z40
   ·have hkb:(e.kind == 1)=false:=beq_eq_false_iff_ne.2 hk1
    have HS:Hid ((L.take (k+1)).filter p=(L.take k).filter p):=HN.out (by rw [HP.out];show (decide (e.kind=1) && !decide (e.dot∈x.dead))=false;rw [aM hk1,Bool.false_and]);clear hk1;go_upto_region 5 with fail
    refine y7 ?_
    intro WA hWA hbA pc1 pc2 pq0 pq1 pq2 pq6 hdA
    clear hWA
    iterate 19 go_big_quiet_step (fail)
    exact z66
  ·obtain rfl:k=L.length:=by omega
   rw [List.take_length] at hown;obtain ⟨aF,cF,rfl,_,hcap⟩:=dE hown;obtain ⟨a2,c2',hF0,hF⟩:=iO hown (fun z hz=>(hE0.dots z (List.mem_filter.1 hz).1).kept hB);obtain ⟨rfl,rfl⟩:=jG hF0;go_wp2;go_ret;have hLL:L=x.K:=HLe.out;subst hLL;exact ⟨aF,cF,rfl,hF,⟨hcap,fE hown hz0'⟩,hb0.trans (hB.mono hz0')⟩
/-! ### Key -/
def yh (k:Key) (z:EvIt):Bool:=decide (z.1.key=k)
theorem y17 {p q : Prop} (k : q) (h : PLift q -> p := by
 intro kk
 refine y62 ?_
 intro WA hWA hbA
 have pk0 : ∀ i : After WA, i.w.cell? ⟨BK, 0, none⟩ = some (.string ky.name) := fun i => i.cell (kept hbA k0)
 have pk1 : ∀ i : After WA, i.w.cell? ⟨BK, 1, none⟩ = some (.string ky.domain) := fun i => i.cell (kept hbA k1)
 have pk2 : ∀ i : After WA, i.w.cell? ⟨BK, 2, none⟩ = some (.string ky.path) := fun i => i.cell (kept hbA k2)
 have pq7 : ∀ i : After WA, i.w.cell? ⟨A, off + k * 19 + 7, none⟩ = some (.string e.key.name) := fun i => i.cell (kept hbA q7)
 have pq8 : ∀ i : After WA, i.w.cell? ⟨A, off + k * 19 + 8, none⟩ = some (.string e.key.domain) := fun i => i.cell (kept hbA q8)
 have pq9 : ∀ i : After WA, i.w.cell? ⟨A, off + k * 19 + 9, none⟩ = some (.string e.key.path) := fun i => i.cell (kept hbA q9)
 clear hWA
 iterate 7 go_big_quiet_step (fail)
 refine wpQuiet_nil ?_
 revert WA hbA pk0 pk1 pk2 pq7 pq8 pq9
 exact kk.down) : p := h ⟨k⟩
theorem Ko (x:RMIt) (ky:Key) (w:World) (hK:x.K.length<=4096) (hdl:x.dead.length<=1048576) (hI:RMIn w x) :
 Calls prog 187 #[pg x,fM ky] w (RY ((x.K.filter (iP x.dead)).filter (yh ky)) w):=by
 obtain ⟨i0,hiE,hz0,hz1,hz2⟩:=info_parts Tryz.infoEv;have HAl:=aa (fun (X:World) (h:RMIn X x)=>qp x X hK hdl h);obtain ⟨p,hp⟩:∃ p,p=yh ky:=⟨_,rfl⟩;rw [<- hp];have HP:=aa hp;have hLK:(x.K.filter (iP x.dead)).length<=4096:=Nat.le_trans (List.length_filter_le _ _) hK;obtain ⟨L,hL⟩:∃ L,L=x.K.filter (iP x.dead):=⟨_,rfl⟩;rw [<- hL] at hLK HAl ⊢;have HLe:=aa hL;clear hp hL hK hdl;go_enter func187,ntmps187;go_upto_region 1 with fail
 refine aN (fun V hV=>?_);have hb0:Below w.heap.size w V:=by rw [hV.out];go_grown
 have x0:V.cell? ⟨w.heap.size,0,none⟩=some (.slice x.ac x.ctx.length x.cc):=by rw [hV.out];go_simp
 have x1:V.cell? ⟨w.heap.size,1,none⟩=some (.slice x.aK x.K.length x.cK):=by rw [hV.out];go_simp
 have x2:V.cell? ⟨w.heap.size,2,none⟩=some (.slice x.ad x.dead.length x.cd):=by rw [hV.out];go_simp
 have K0:V.cell? ⟨w.heap.size+1,0,none⟩=some (.string ky.name):=by rw [hV.out];go_simp
 have K1:V.cell? ⟨w.heap.size+1,1,none⟩=some (.string ky.domain):=by rw [hV.out];go_simp
 have K2:V.cell? ⟨w.heap.size+1,2,none⟩=some (.string ky.path):=by rw [hV.out];go_simp
 have hI0:=hI.keep hb0;have hbM:Below V.heap.size V (V.alloc (Obj.cells #[] 82)):=(bb _ _).alloc (aq _) _;have hown0:(V.alloc (Obj.cells #[] 82)).ownsRow V.heap.size 82 19 (.slice (some ⟨V.heap.size,0,none⟩) 0 0) 0 []:=World.ownsRow_made _ _ _ (aq _) (by decide) rfl;clear hV hI;go_upto_region 2 with fail
 refine aN (fun V1 hV1=>?_);have Vd:V1=V.alloc (Obj.cells #[] 82):=hV1.out;have HSV:Hid (V1.heap.size=V.heap.size+1):=by unfold Hid;rw [Vd];simp
 rw [<- Vd] at hbM hown0;have hI1:=hI0.keep hbM;replace x0:=kept hbM x0;replace x1:=kept hbM x1;replace x2:=kept hbM x2;clear hV1 Vd;have zg:∀ z∈L,DotsIn V z.2.1 z.1.over:=fun z hz=>hI0.kept.dots z (List.mem_filter.1 (by rw [HLe.out] at hz;exact hz)).1;clear hI0;go_wp2_with (go_at_call 99;(with_reducible refine (HAl.out _ hI1).mono ?_);rintro v W0 ⟨aA,cA,rfl,hE0,⟨_,hLr⟩,hb1⟩)
 have KZ:Below V.heap.size V W0:=hbM.trans (hb1.mono hbM.size);have hownA:=ownsRow_below hown0 hb1;have hbW0:Below w.heap.size w W0:=hb0.trans (KZ.mono hb0.size);have hzV:=KZ.size;have Wi:∀ g,(Value.slice (some ⟨V.heap.size,0,none⟩) 0 0).ownBlock=some g->(Value.slice aA L.length cA).ownBlock≠some g:=fun g hg e9=>by
  have h9:=(hLr.lt g e9).1;have h8:=HSV.out;simp [Value.ownBlock] at hg;omega
 generalize hBK:w.heap.size+1=BK at *;have C0:=kept KZ K0;have C1:=kept KZ K1;have C2:=kept KZ K2;have HBW:=aa hb0;clear x0 x1 x2 hown0 hbM hb1 hI1 hb0 hBK HAl hE0;go_loopw [5,7] (fun u i wr=>∃ k:Nat,i=.int .i64 k/\k<=L.length/\wr.ownsRow V.heap.size 82 19 u ((L.take k).filter p).length (aJ ((L.take k).filter p))/\(∀ g,u.ownBlock=some g->(Value.slice aA L.length cA).ownBlock≠some g)/\wr.ownsRow V1.heap.size 82 19 (.slice aA L.length cA) L.length (aJ L)/\Below V.heap.size V wr) (fun _ i _=>L.length - (intOf i).toNat)
 case atStart=>exact ⟨0,rfl,Nat.zero_le _,hownA,Wi,hLr,KZ⟩
 case round =>
  obtain ⟨k,rfl,hk,hown,hne,hLw,hB⟩:=hrel;clear hownA Wi hLr KZ hbW0 C0 C1 C2;have k0:=kept hB K0;have k1:=kept hB K1;have k2:=kept hB K2;have hzr:=hB.size;have hfl:((L.take k).filter p).length<=4096:=by
   have h1:=List.length_filter_le p (L.take k);rw [List.length_take] at h1;omega
  obtain ⟨u,hu⟩:∃ u,u=u5:=⟨_,rfl⟩;rw [<- hu] at hown hne ⊢;clear hu;by_cases hlt:k<L.length
  ·obtain ⟨a9,c9,he9,hE9⟩:=iO hLw (fun z hz=>(zg z hz).kept hB)
   obtain ⟨rfl,rfl⟩:=jG he9;obtain ⟨A,off,rfl,hra,_⟩:=hE9.at hlt;have r1:=hra k hlt;have HY:=aa (fun h=>IZ (p:=p) hlt h);have HN:=aa (fun h=>Nj (p:=p) hlt h);have HLT:=aa hlt;have hkl:k<=4096:=by omega
   have hEq:=fun (W:World)=>Uj W 9998 L[k].1.key ky;have hm:=Bv;generalize L[k]=z at *;obtain ⟨e,ax,cx⟩:=z;simp only [kT] at r1;simp only at hEq;have q7:=r1 7 _ rfl;have q8:=r1 8 _ rfl;have q9:=r1 9 _ rfl;clear hra hE9 he9;have HLW:=aa hLw;have HNE:=aa hne;clear hLw hne;by_cases hke:e.key=ky
   ·rw [aR hke] at hEq
    have HS:Hid ((L.take (k+1)).filter p=(L.take k).filter p++[(e,ax,cx)]):=HY.out (by rw [HP.out];exact aR hke);clear hke;go_upto_region 6 with fail
    refine y17 ?_
    intro WA hbA pk0 pk1 pk2 pq7 pq8 pq9
    rintro _ ⟨i,rfl⟩;have hiA:=i.h;generalize i.w=wp at hiA ⊢;have hbY:Below wr.heap.size wr wp:=below2 hbA hiA;clear hbA hiA pk0 pk1 pk2 pq7 pq8 pq9;have R5:=ai r1 hbY;have hown5:=ownsRow_below hown hbY;have Vg:=ownsRow_below HLW.out hbY;replace hB:=hB.trans (hbY.mono hzr);have hz5:=hB.size;clear r1 hown hbY k0 k1 k2 q7 q8 q9;go_wp2_with (first
     | ((with_reducible refine bu _ A (off+k * 19) e ax cx R5 ?_ rfl ?_);exact rfl)
     | (refine wpList_buildOne rfl 33 82 _ rfl (ah e ax cx).toArray 19 rfl rfl (by decide) (by decide) underlying33 (by kernel_rfl) (by kernel_rfl) ?_)
     | (at_builtin;go_loud (refine wpList_append_own_at _ rfl _ _ 33 rfl V.heap.size 82 i0 (.agg (ah ev0 none 0).toArray) 19 176 underlying33 hiE hz0 hz1 hz2 rfl (by decide) _ _ _ rfl (hown5.alloc _) ⟨wp.heap.size,0,none⟩ 1 1 (ah e ax cx) rfl rfl (wX wp e ax cx _) (df _ _ _) (by unfold maxLen;omega) (by omega) (by simp;omega) ?_)))
    intro v' wf mV hgrow _ hat;have hal:Below wp.heap.size wp (wp.alloc (Obj.cells (ah e ax cx).toArray 82)):=(bb _ _).alloc (aq _) _;have hbF:Below V.heap.size V wf:=(hB.trans (hal.mono hz5)).grown hgrow (by have:=hal.size;omega) (fun j hj=>(hown5.lt j hj).1);have hLf:=FW (Vg.alloc _) (fun g hg=>HNE.out g hg) hgrow;have Wh:∀ g,v'.ownBlock=some g->(Value.slice (some ⟨A,off,none⟩) L.length cA).ownBlock≠some g:=fun g hg e9=>by
     rcases hat with h9 | h9
     ·exact HNE.out g (h9.symm.trans hg) e9
     ·rw [h9] at hg
      simp only [Option.some.injEq,World.size_alloc] at hg;have:=(Vg.lt g e9).2;omega
    have HZ:Hid (wf.ownsRow V.heap.size 82 19 v' ((L.take (k+1)).filter p).length (aJ ((L.take (k+1)).filter p))/\(∀ g,v'.ownBlock=some g->(Value.slice (some ⟨A,off,none⟩) L.length cA).ownBlock≠some g)/\wf.ownsRow V1.heap.size 82 19 (.slice (some ⟨A,off,none⟩) L.length cA) L.length (aJ L)/\Below V.heap.size V wf):=by
     refine ⟨?_,Wh,hLf,hbF⟩;rw [HS.out,kX,ar];exact mV
    clear mV hgrow hat hal hbF hown5 Vg hLf Wh R5;go_wp2;go_roundw
    case rel=>exact ⟨k+1,by go_num,HLT.out,HZ.out.1,HZ.out.2.1,HZ.out.2.2.1,HZ.out.2.2.2⟩
    case measure => exact z64
   ·rw [aM hke] at hEq
    have HS:Hid ((L.take (k+1)).filter p=(L.take k).filter p):=HN.out (by rw [HP.out];exact aM hke);clear hke;go_upto_region 6 with fail
    refine y17 ?_
    intro WA hbA pk0 pk1 pk2 pq7 pq8 pq9
    rintro _ ⟨i,rfl⟩;have hiA:=i.h;generalize i.w=wp at hiA ⊢;have hbY:Below wr.heap.size wr wp:=below2 hbA hiA;clear hbA hiA pk0 pk1 pk2 pq7 pq8 pq9;have HZ:Hid (wp.ownsRow V.heap.size 82 19 u ((L.take (k+1)).filter p).length (aJ ((L.take (k+1)).filter p))/\wp.ownsRow V1.heap.size 82 19 (.slice (some ⟨A,off,none⟩) L.length cA) L.length (aJ L)/\Below V.heap.size V wp):=by
     refine ⟨?_,ownsRow_below HLW.out hbY,hB.trans (hbY.mono hzr)⟩;rw [HS.out];exact ownsRow_below hown hbY
    clear hown hbY;go_wp2;go_roundw
    case rel=>exact ⟨k+1,by go_num,HLT.out,HZ.out.1,HNE.out,HZ.out.2.1,HZ.out.2.2⟩
    case measure => exact z64
  ·obtain rfl:k=L.length:=by omega
   rw [List.take_length] at hown;obtain ⟨aF,cF,rfl,_,hcap⟩:=dE hown;obtain ⟨a2,c2',hF0,hF⟩:=iO hown (fun z hz=>(zg z (List.mem_filter.1 hz).1).kept hB);obtain ⟨rfl,rfl⟩:=jG hF0;go_wp2;go_ret;exact ⟨aF,cF,rfl,hF,⟨hcap,fE hown HBW.out.size⟩,HBW.out.trans (hB.mono HBW.out.size)⟩
def FD:List Ev->Ev
 | []=>ev0
 | x :: r=>r.foldl fB x
theorem NV:∀ {l:List Ev} {e:Ev},l≠[]->FD (l++[e])=fB (FD l) e
 | [],_,h=>absurd rfl h
 | x :: r,e,_=>by
   show (r++[e]).foldl fB x=_;rw [List.foldl_append];rfl
theorem PW (l:List Ev):fQ l=(FD l,decide (0<l.length)):=by cases l <;> rfl
theorem y36 {p q : Prop} (k : q) (h : PLift q -> p := by
 intro kk
 refine ql 4 5 82 82 (w.heap.size + 2) (ah z az cz).toArray _ _ rfl rfl rfl (setRow_heap _ _ _ _ _ _ hCr) underlying82 rfl (by kernel_rfl) rfl ?_
 have hbS := below_setRow hbF (by omega : w.heap.size <= w.heap.size + 2) (ah z az cz).toArray
 refine ⟨az, cz, by rw [HDN.out, <- HZF.out]; rfl, ?_, hbS⟩
 show DotsIn _ az (FD (evsOf L)).over
 rw [<- HZF.out]
 revert hbS
 exact kk.down) : p := h ⟨k⟩
theorem DK (x:RMIt) (ky:Key) (w:World) (hK:x.K.length<=4096) (hdl:x.dead.length<=1048576) (hI:RMIn w x) (hok:∀ z∈x.K,∀ d∈z.1.over,bi d=true) :
 Calls prog 147 #[pg x,fM ky] w (Vr (fQ (evsOf ((x.K.filter (iP x.dead)).filter (yh ky)))) w):=by
 have HKy:=aa (fun (X:World) (h:RMIn X x)=>Ko x ky X hK hdl h);have HLs:=aa (fun (a b:Stamp) (X:World)=>Ba a b X);rw [PW];have HOK:Hid (∀ z∈(x.K.filter (iP x.dead)).filter (yh ky),∀ d∈z.1.over,bi d=true):=fun z hz=>hok z (List.mem_filter.1 (List.mem_filter.1 hz).1).1;have hLK:((x.K.filter (iP x.dead)).filter (yh ky)).length<=4096:=Nat.le_trans (List.length_filter_le _ _) (Nat.le_trans (List.length_filter_le _ _) hK);generalize (x.K.filter (iP x.dead)).filter (yh ky)=L at *;rw [aQ];clear hok hK hdl;go_enter func147,ntmps147;go_upto_region 1 with fail
 refine aN (fun V hV=>?_);have hb0:Below w.heap.size w V:=by rw [hV.out];go_grown
 have x0:V.cell? ⟨w.heap.size,0,none⟩=some (.slice x.ac x.ctx.length x.cc):=by rw [hV.out];go_simp
 have x1:V.cell? ⟨w.heap.size,1,none⟩=some (.slice x.aK x.K.length x.cK):=by rw [hV.out];go_simp
 have x2:V.cell? ⟨w.heap.size,2,none⟩=some (.slice x.ad x.dead.length x.cd):=by rw [hV.out];go_simp
 have k0:V.cell? ⟨w.heap.size+1,0,none⟩=some (.string ky.name):=by rw [hV.out];go_simp
 have k1:V.cell? ⟨w.heap.size+1,1,none⟩=some (.string ky.domain):=by rw [hV.out];go_simp
 have k2:V.cell? ⟨w.heap.size+1,2,none⟩=some (.string ky.path):=by rw [hV.out];go_simp
 have hC:V.heap[w.heap.size+2]?=some (.cells (ah ev0 none 0).toArray 82 (0,0)):=by
  rw [hV.out];have h9:=bP ((w.alloc (.cells #[.slice x.ac x.ctx.length x.cc,.slice x.aK x.K.length x.cK,.slice x.ad x.dead.length x.cd] 46)).alloc (.cells #[.string ky.name,.string ky.domain,.string ky.path] 78)) (.cells (ah ev0 none 0).toArray 82);rwa [show ((w.alloc (.cells #[.slice x.ac x.ctx.length x.cc,.slice x.aK x.K.length x.cK,.slice x.ad x.dead.length x.cd] 46)).alloc (.cells #[.string ky.name,.string ky.domain,.string ky.path] 78)).heap.size=w.heap.size+2 by simp] at h9
 have hI0:=hI.keep hb0;clear hV hI;go_upto_region 2 with (go_at_call 187;(with_reducible refine (HKy.out _ hI0).mono ?_);rintro v w1 ⟨aL,cL,rfl,hE,_,hb1⟩)
 have hC1:=(hb1.block _ (lt_of_block hC)).trans hC;have hCl:=lt_of_block hC1;have rO:Below w.heap.size w w1:=hb0.trans (hb1.mono hb0.size);clear x0 x1 x2 k0 k1 k2 hC hI0 hb0 hb1 HKy;go_upto_region 3 with (refine bK 82 _ _ _ (ah ev0 none 0).toArray rfl rfl (by kernel_rfl) rfl (by kernel_rfl) ?_)
 obtain ⟨W2,hW2⟩:∃ W2,W2=w1.alloc (.cells (ah ev0 none 0).toArray 82):=⟨_,rfl⟩;have hb2:Below w1.heap.size w1 W2:=by rw [hW2];exact (bb _ _).alloc (aq _) _
 have hB2:W2.heap[w1.heap.size]?=some (.cells (ah ev0 none 0).toArray 82 (0,0)):=by rw [hW2];exact bP _ _
 rw [<- hW2];clear hW2;obtain ⟨BB,hBB⟩:∃ BB,BB=w1.heap.size:=⟨_,rfl⟩;have HBB:=aa hBB;rw [<- hBB] at hB2 ⊢;clear hBB;go_wp2;go_loopw [8] (fun i wr=>∃ (k:Nat) (z:EvIt),i=.int .i64 k/\k<=L.length/\wr.heap[BB]?=some (.cells (ah z.1 z.2.1 z.2.2).toArray 82 (0,0))/\(0<k->z∈L)/\(k=0->z=(ev0,none,0))/\z.1=FD ((evsOf L).take k)/\Below w1.heap.size w1 wr) (fun i _=>L.length - (intOf i).toNat)
 case atStart=>exact ⟨0,(ev0,none,0),rfl,Nat.zero_le _,hB2,fun h9=>absurd h9 (by omega),fun _=>rfl,rfl,hb2⟩
 case round =>
  obtain ⟨k,⟨z,az,cz⟩,rfl,hk,hBr,hzm,hz0,hzv,hbr⟩:=hrel;simp only at hBr hzv;have HZ0:=aa (a7 hzv (a7 hzm hz0));clear hzv hzm hz0 hB2 hb2;have rz:wr.rangeAt BB 0 (ah z az cz):=fun i v hv=>by
   rw [av];simp only [World.cell?,hBr];simpa using hv
  have hzr:=hbr.size;by_cases hlt:k<L.length
  ·obtain ⟨A,off,rfl,hra,_⟩:=(hE.kept hbr).at hlt
   have r1:=hra k hlt;have HY:Hid (L[k]∈L):=List.getElem_mem hlt;have HS:Hid ((evsOf L).take (k+1)=(evsOf L).take k++[L[k].1]):=by
        exact z46
   have HTN:Hid (0<k->(evsOf L).take k≠[]):=fun h9 e9=>by
        have:=congrArg List.length e9;rw [List.length_take,aQ,List.length_nil,Nat.min_eq_left hk] at this;omega
   have HLT:=aa hlt;have hkl:k<=4096:=by omega
   generalize L[k]=y at *;obtain ⟨e,ae,ce⟩:=y;simp only [kT] at r1;simp only at HS;have e3:=r1 3 _ rfl;have e4:=r1 4 _ rfl;have e5:=r1 5 _ rfl;have z3:=rz 3 _ rfl;have z4:=rz 4 _ rfl;have z5:=rz 5 _ rfl;simp only [av] at z3 z4 z5;have HL1:=fun (X:World)=>HLs.out e.stamp z.stamp X;clear hra;rcases Nat.eq_zero_or_pos k with hk0 | hk0
   ·have hkb:((k:Int) == 0)=true:=beq_iff_eq.2 (by omega)
    have HN:Hid (e=FD ((evsOf L).take (k+1))):=by unfold Hid;rw [HS.out,hk0];rfl
    clear hk0 HL1;go_upto_region 6 with fail
    refine y62 ?_
    intro WA hWA hbA
    have pz3:∀ i:After WA,i.w.cell? ⟨BB,3,none⟩=some (.int .i64 z.stamp.wall):=fun i=>i.cell (kept hbA z3);have pz4:∀ i:After WA,i.w.cell? ⟨BB,4,none⟩=some (.int .i64 z.stamp.count):=fun i=>i.cell (kept hbA z4);have pz5:∀ i:After WA,i.w.cell? ⟨BB,5,none⟩=some (.int .i64 z.stamp.dev):=fun i=>i.cell (kept hbA z5);have pe3:∀ i:After WA,i.w.cell? ⟨A,off+k * 19+3,none⟩=some (.int .i64 e.stamp.wall):=fun i=>i.cell (kept hbA e3);have pe4:∀ i:After WA,i.w.cell? ⟨A,off+k * 19+4,none⟩=some (.int .i64 e.stamp.count):=fun i=>i.cell (kept hbA e4);have pe5:∀ i:After WA,i.w.cell? ⟨A,off+k * 19+5,none⟩=some (.int .i64 e.stamp.dev):=fun i=>i.cell (kept hbA e5);clear hWA;iterate 13 go_big_quiet_step (fail)
    refine wpQuiet_nil ?_;rintro _ ⟨i,rfl⟩;have hiA:=i.h;generalize i.w=wp at hiA ⊢;have hbY:Below wr.heap.size wr wp:=below2 hbA hiA;clear hbA hiA pz3 pz4 pz5 pe3 pe4 pe5;have r5:=ai r1 hbY;have hB5:=(hbY.block _ (lt_of_block hBr)).trans hBr;have IJ:Below w1.heap.size w1 wp:=hbr.trans (hbY.mono hzr);clear r1 rz hBr hbr hbY z3 z4 z5 e3 e4 e5;go_wp2_with (first
     | ((with_reducible refine bu _ A (off+k * 19) e ae ce r5 ?_ rfl ?_);exact rfl)
     | (refine wpList_store_row rfl 82 _ _ rfl BB (ah e ae ce).toArray rfl rfl 82 _ hB5 (by kernel_rfl) rfl (by kernel_rfl) ?_))
    have HB:=aa (a7 (setRow_heap _ _ _ (ah e ae ce).toArray _ _ hB5) (below_setRow IJ (Nat.le_of_eq HBB.out.symm) (ah e ae ce).toArray));clear hB5 IJ r5;go_roundw
    case rel=>exact ⟨k+1,(e,ae,ce),by go_num,HLT.out,HB.out.1,fun _=>HY.out,fun h9=>absurd h9 (by omega),HN.out,HB.out.2⟩
    case measure => exact z64
   ·have hkb:((k:Int) == 0)=false:=beq_eq_false_iff_ne.2 (by omega)
    have hN0:=NV (e:=e) (HTN.out hk0);rw [<- HS.out,<- HZ0.out.1] at hN0
    cases hlt2:qh e.stamp z.stamp with
    | true =>
      rw [hlt2] at HL1;have HN:Hid (z=FD ((evsOf L).take (k+1))):=by unfold Hid;rw [hN0];unfold fB;rw [hlt2,if_pos rfl]
      have HKP:=aa hk0;clear hlt2 hN0 hk0;go_upto_region 6 with fail
      refine aH (by kernel_rfl) (by kernel_rfl) (fun WA hWA=>?_);have hbA:Below wr.heap.size wr WA:=by rw [hWA.out];go_grown
      have pz3:∀ i:After WA,i.w.cell? ⟨BB,3,none⟩=some (.int .i64 z.stamp.wall):=fun i=>i.cell (kept hbA z3);have pz4:∀ i:After WA,i.w.cell? ⟨BB,4,none⟩=some (.int .i64 z.stamp.count):=fun i=>i.cell (kept hbA z4);have pz5:∀ i:After WA,i.w.cell? ⟨BB,5,none⟩=some (.int .i64 z.stamp.dev):=fun i=>i.cell (kept hbA z5);have pe3:∀ i:After WA,i.w.cell? ⟨A,off+k * 19+3,none⟩=some (.int .i64 e.stamp.wall):=fun i=>i.cell (kept hbA e3);have pe4:∀ i:After WA,i.w.cell? ⟨A,off+k * 19+4,none⟩=some (.int .i64 e.stamp.count):=fun i=>i.cell (kept hbA e4);have pe5:∀ i:After WA,i.w.cell? ⟨A,off+k * 19+5,none⟩=some (.int .i64 e.stamp.dev):=fun i=>i.cell (kept hbA e5);clear hWA;iterate 10 go_big_quiet_step (fail)
      go_big_quiet_step (exact Calls.after (HL1 _))
      iterate 2 go_big_quiet_step (fail)
      refine wpQuiet_nil ?_;rintro _ ⟨i,rfl⟩;have hiA:=i.h;generalize i.w=wp at hiA ⊢;have hbY:Below wr.heap.size wr wp:=below2 hbA hiA;clear hbA hiA pz3 pz4 pz5 pe3 pe4 pe5;have HB:=aa (a7 ((hbY.block _ (lt_of_block hBr)).trans hBr) (hbr.trans (hbY.mono hzr)));clear hBr hbr hbY rz r1 z3 z4 z5 e3 e4 e5;go_wp2;go_roundw
      case rel=>exact ⟨k+1,(z,az,cz),by go_num,HLT.out,HB.out.1,fun _=>HZ0.out.2.1 HKP.out,fun h9=>absurd h9 (by omega),HN.out,HB.out.2⟩
      case measure => exact z64
    | false =>
      rw [hlt2] at HL1;have HN:Hid (e=FD ((evsOf L).take (k+1))):=by unfold Hid;rw [hN0];unfold fB;rw [hlt2,if_neg (by decide)]
      clear hlt2 hN0 hk0;go_upto_region 6 with fail
      refine aH (by kernel_rfl) (by kernel_rfl) (fun WA hWA=>?_);have hbA:Below wr.heap.size wr WA:=by rw [hWA.out];go_grown
      have pz3:∀ i:After WA,i.w.cell? ⟨BB,3,none⟩=some (.int .i64 z.stamp.wall):=fun i=>i.cell (kept hbA z3);have pz4:∀ i:After WA,i.w.cell? ⟨BB,4,none⟩=some (.int .i64 z.stamp.count):=fun i=>i.cell (kept hbA z4);have pz5:∀ i:After WA,i.w.cell? ⟨BB,5,none⟩=some (.int .i64 z.stamp.dev):=fun i=>i.cell (kept hbA z5);have pe3:∀ i:After WA,i.w.cell? ⟨A,off+k * 19+3,none⟩=some (.int .i64 e.stamp.wall):=fun i=>i.cell (kept hbA e3);have pe4:∀ i:After WA,i.w.cell? ⟨A,off+k * 19+4,none⟩=some (.int .i64 e.stamp.count):=fun i=>i.cell (kept hbA e4);have pe5:∀ i:After WA,i.w.cell? ⟨A,off+k * 19+5,none⟩=some (.int .i64 e.stamp.dev):=fun i=>i.cell (kept hbA e5);clear hWA;iterate 10 go_big_quiet_step (fail)
      go_big_quiet_step (exact Calls.after (HL1 _))
      iterate 2 go_big_quiet_step (fail)
      refine wpQuiet_nil ?_;rintro _ ⟨i,rfl⟩;have hiA:=i.h;generalize i.w=wp at hiA ⊢;have hbY:Below wr.heap.size wr wp:=below2 hbA hiA;clear hbA hiA pz3 pz4 pz5 pe3 pe4 pe5;have r5:=ai r1 hbY;have hB5:=(hbY.block _ (lt_of_block hBr)).trans hBr;have IJ:Below w1.heap.size w1 wp:=hbr.trans (hbY.mono hzr);clear r1 rz hBr hbr hbY z3 z4 z5 e3 e4 e5;go_wp2_with (first
       | ((with_reducible refine bu _ A (off+k * 19) e ae ce r5 ?_ rfl ?_);exact rfl)
       | (refine wpList_store_row rfl 82 _ _ rfl BB (ah e ae ce).toArray rfl rfl 82 _ hB5 (by kernel_rfl) rfl (by kernel_rfl) ?_))
      have HB:=aa (a7 (setRow_heap _ _ _ (ah e ae ce).toArray _ _ hB5) (below_setRow IJ (Nat.le_of_eq HBB.out.symm) (ah e ae ce).toArray));clear hB5 IJ r5;go_roundw
      case rel=>exact ⟨k+1,(e,ae,ce),by go_num,HLT.out,HB.out.1,fun _=>HY.out,fun h9=>absurd h9 (by omega),HN.out,HB.out.2⟩
      case measure => exact z64
  ·obtain rfl:k=L.length:=by omega
   have hzf:z=FD (evsOf L):=by
        have h9:=HZ0.out.1
        exact z137
   have HZF:=aa hzf;have hCr:=(hbr.block _ hCl).trans hC1;have hbF:Below w.heap.size w wr:=rO.trans (hbr.mono rO.size);have HEr:=aa (hE.kept hbr);clear hzf;by_cases hL0:L.length=0
   ·have hdi:decide (0<(L.length:Int))=false:=aM (by omega)
    have hdn:decide (0<L.length)=false:=aM (by omega);have HDN:=aa hdn;clear hdn;go_wp2_with (first
     | ((with_reducible refine bu _ BB 0 z az cz rz ?_ rfl ?_);exact rfl)
     | (refine wpList_store_row rfl 82 _ _ rfl (w.heap.size+2) (ah z az cz).toArray rfl rfl 82 _ hCr (by kernel_rfl) rfl (by kernel_rfl) ?_))
    refine y36 ?_
    intro hbS
    have h9:=HZ0.out.2.2 hL0
    cases h9
    exact a8 rfl
   ·have hdi:decide (0<(L.length:Int))=true:=aR (by omega)
    have hdn:decide (0<L.length)=true:=aR (by omega);have HDN:=aa hdn;clear hdn;go_wp2_with (first
     | ((with_reducible refine bu _ BB 0 z az cz rz ?_ rfl ?_);exact rfl)
     | (refine wpList_store_row rfl 82 _ _ rfl (w.heap.size+2) (ah z az cz).toArray rfl rfl 82 _ hCr (by kernel_rfl) rfl (by kernel_rfl) ?_))
    refine y36 ?_
    intro hbS
    have hm9:=HZ0.out.2.1 (by omega);exact DotsIn.not0 (HEr.out.dots _ hm9) (HOK.out _ hm9) hCr (fun k9 hk9=>aX _ _ _ _ (fun e9=>hk9 e9.symm))
end Go.Proofs.YthphepeniaemoaaGreat
