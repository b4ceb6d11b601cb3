/- The reference's events: put. Conditions: at most 2^20 of them. -/
import Derived.Test.YthphepeniaemoaaGreatRefM
import Derived.Test.YthphepeniaemoaaGreatOrmH
import Derived.Test.YthphepeniaemoaaGreatTrod
set_option linter.unusedSimpArgs false
set_option linter.unusedVariables false
set_option linter.unnecessarySimpa false
set_option maxHeartbeats 16000000
set_option maxRecDepth 100000
open Go.Proofs.Tryz
namespace Go.Proofs.YthphepeniaemoaaGreat
open Go.RowKit
theorem EI {α:Type} {f:α->List Value} {n:Nat} (hf:∀ x,(f x).length=n):∀ (l:List α) (k:Nat),(l.flatMap f).take (k * n)=(l.take k).flatMap f
 | l,0=>by simp
 | [],k+1=>by simp
 | g :: l,k+1=>by
   rw [show (k+1) * n=n+k * n by rw [Nat.add_mul];omega,List.take_succ_cons,List.flatMap_cons,List.flatMap_cons,<- EI hf l k,List.take_append,hf g,List.take_of_length_le (by rw [hf g];omega)];simp
theorem EJ {α:Type} {f:α->List Value} {n:Nat} (hf:∀ x,(f x).length=n):∀ (l:List α) (k:Nat),(l.flatMap f).drop (k * n)=(l.drop k).flatMap f
 | l,0=>by simp
 | [],k+1=>by simp
 | g :: l,k+1=>by
   rw [show (k+1) * n=n+k * n by rw [Nat.add_mul];omega,List.drop_succ_cons,List.flatMap_cons,<- EJ hf l k,List.drop_append,hf g,List.drop_of_length_le (by rw [hf g];omega)];simp
theorem xh (x:EvIt):(qj x).length=19:=rfl
theorem EP (l:List EvIt) (k:Nat):(aX l).take (k * 19)=aX (l.take k):=EI xh l k
theorem EQ (l:List EvIt) (k:Nat):(aX l).drop (k * 19)=aX (l.drop k):=EJ xh l k
theorem kE (l:List EvIt):(aX l).length=l.length * 19:=by
 induction l with
 | nil=>rfl
 | cons x l ih =>
   show (qj x++aX l).length=_;rw [av,ih,xh,List.length_cons];omega
theorem l9 (l:List EvIt):∀ u∈aX l,u.oneCell'=true:=by
 intro u hu;obtain ⟨x,_,hx⟩:=List.mem_flatMap.1 hu;exact gZ _ _ _ u hx
theorem EvsIn.cells {w:World} {a:Option Addr} {ls:List EvIt} (h:EvsIn w a ls):CellsIn w a (aX ls):=by
 rcases h.rows with h1 | ⟨A,off,h1,h2⟩
 ·exact bb (by rw [h1];rfl)
 ·exact bd ⟨A,off,h1,uZ qj 19 ls off fun i hi=>⟨xh _,h2 i hi⟩⟩
theorem jG (w:World) (e:Ev) (a:Option Addr) (c:Nat):CellsIn (w.alloc (.cells (az e a c).toArray 82)) (some ⟨w.heap.size,0,none⟩) (az e a c):=by
 refine bd ⟨_,_,rfl,fun j v hv=>?_⟩;rw [aw,World.cell?_alloc_new];simpa using hv
/-- how many are ahead of a dot -/
def iV (l:List EvIt) (d:Dot):Nat:=(l.takeWhile fun x=>cu x.1.dot d).length
theorem LC {l:List EvIt} {d:Dot} {k:Nat} (h:k<l.length) (hp:cu l[k].1.dot d=true):iV (l.drop k) d=iV (l.drop (k+1)) d+1:=by
 unfold iV
 exact z113
theorem O6 {l:List EvIt} {d:Dot} {k:Nat} (h:k<l.length) (hp:cu l[k].1.dot d=false):iV (l.drop k) d=0:=by
 unfold iV
 exact z105
def iY (l:List EvIt) (x:EvIt):List EvIt:=l.take (iV l x.1.dot)++x :: l.drop (iV l x.1.dot)
/-- one event more, by its dot -/
def sZ (e:Ev):List Ev->List Ev
 | []=>[e]
 | x :: l=>if cu x.dot e.dot=true then x :: sZ e l else e :: x :: l
theorem EN (x:EvIt):∀ l:List EvIt,evsOf (iY l x)=sZ x.1 (evsOf l)
 | []=>rfl
 | y :: l=>by
   have ih:=EN x l;show evsOf (iY (y :: l) x)=sZ x.1 (y.1 :: evsOf l)
   cases hy:cu y.1.dot x.1.dot with
   | true =>
     have e:iV (y :: l) x.1.dot=iV l x.1.dot+1:=by unfold iV;rw [List.takeWhile_cons];simp [hy]
     unfold sZ;rw [if_pos hy,<- ih];unfold iY;rw [e];simp [evsOf]
   | false =>
     have e:iV (y :: l) x.1.dot=0:=by unfold iV;rw [List.takeWhile_cons];simp [hy]
     unfold sZ iY;rw [if_neg (by rw [hy];decide),e];simp [evsOf]
theorem EC (l:List EvIt) (x:EvIt):(iY l x).length=l.length+1:=by
 have h:iV l x.1.dot<=l.length:=List.Sublist.length_le (List.takeWhile_sublist _);unfold iY;rw [av,List.length_cons,List.length_take,List.length_drop];omega
theorem yt {l:List EvIt} {x y:EvIt} (h:y∈iY l x):y=x\/y∈l:=by
 unfold iY at h
 exact z115
def Rt (ls:List EvIt) (w:World) (x:Ending) (w':World):Prop:=∃ a c,x=.returned (.slice a ls.length c)/\w'.ownsRow w.heap.size 82 19 (.slice a ls.length c) ls.length (aX ls)/\EvsIn w' a ls/\ls.length<=c/\Below w.heap.size w w'
theorem NI (a ae:Option Addr) (cap ce:Nat) (ls:List EvIt) (e:Ev) (w:World) (hl:ls.length<=1048576) (hlc:ls.length<=cap) (hE:EvsIn w a ls) (hd:DotsIn w ae e.over) :
 Calls prog 115 #[.slice a ls.length cap,kV e ae ce] w (Rt (iY ls (e,ae,ce)) w):=by
 obtain ⟨i0,hi,hz0,hz1,hz2⟩:=info_parts Tryz.infoEv;have HL:=aq (fun (x y:Dot) (X:World)=>yg x y X);go_enter func115,ntmps115;go_upto_region 1 with fail
 refine aI (fun W0 hW0=>?_);have hb0:Below w.heap.size w W0:=by rw [hW0.out];go_grown
 have hR0:W0.rangeAt w.heap.size 0 (az e ae ce):=by rw [hW0.out];exact dU e ae ce w _
 have HR:=aq hR0;have D0:=hR0 0 _ rfl;have D1:=hR0 1 _ rfl;have D2:=hR0 2 _ rfl;simp only [aw] at D0 D1 D2;have hE0:=hE.kept hb0;have HC:=aq hE0.cells;have HD:Hid (∀ x∈iY ls (e,ae,ce),DotsIn W0 x.2.1 x.1.over):=fun x hx=>by
  rcases yt hx with rfl | hx
  ·exact hd.kept hb0
  ·exact hE0.dots x hx
 have hz0':=hb0.size;clear hW0 hR0 hE hd;go_wp2;go_loopw [5] (fun i wr=>∃ q:Nat,i=.int .i64 q/\q<=ls.length/\iV ls e.dot=q+iV (ls.drop q) e.dot/\Below W0.heap.size W0 wr) (fun i _=>ls.length - (intOf i).toNat)
 case atStart=>exact ⟨0,rfl,Nat.zero_le _,by simp,bh _ _⟩
 case round =>
  obtain ⟨q,rfl,hq,hA0,hB⟩:=hrel;have HA:=aq hA0;have HQ:=aq hq;clear hA0;by_cases hqt:q<ls.length
  ·obtain ⟨A,off,rfl,hra,_⟩:=hE0.at hqt
   have r1:=hra q hqt;have HY:=aq (fun (h:cu ls[q].1.dot e.dot=true)=>LC hqt h);have HN:=aq (fun (h:cu ls[q].1.dot e.dot=false)=>O6 hqt h);have HL1:=fun (X:World)=>HL.out ls[q].1.dot e.dot X;have HQT:=aq hqt;have hql:q<=1048576:=by omega
   generalize ls[q]=y2 at *;obtain ⟨y,ay,cy⟩:=y2;simp only [qj] at r1;simp only at HY HN HL1;have F0:=r1 0 _ rfl;have F1:=r1 1 _ rfl;have F2:=r1 2 _ rfl;simp only [Nat.add_zero] at F0;clear hra r1
   cases hly:cu y.dot e.dot with
   | true =>
     rw [hly] at HL1;have HA2:Hid (iV ls e.dot=q+1+iV (ls.drop (q+1)) e.dot):=by unfold Hid;rw [HA.out,HY.out hly];omega
     clear hly;go_upto_region 2 with fail
     refine aN (by kernel_rfl) (by kernel_rfl) (fun WA hWA=>?_);have hbA:Below wr.heap.size wr WA:=by rw [hWA.out];go_grown
     have hBA:Below W0.heap.size W0 WA:=hB.trans (hbA.mono hB.size);have pD0:∀ i:After WA,i.w.cell? ⟨w.heap.size,0,none⟩=some (.int .i64 e.dot.a.dev):=fun i=>i.cell (kept hBA D0);have pD1:∀ i:After WA,i.w.cell? ⟨w.heap.size,1,none⟩=some (.int .i64 e.dot.a.inc):=fun i=>i.cell (kept hBA D1);have pD2:∀ i:After WA,i.w.cell? ⟨w.heap.size,2,none⟩=some (.int .i64 e.dot.seq):=fun i=>i.cell (kept hBA D2);have pF0:∀ i:After WA,i.w.cell? ⟨A,off+q * 19,none⟩=some (.int .i64 y.dot.a.dev):=fun i=>i.cell (kept hBA F0);have pF1:∀ i:After WA,i.w.cell? ⟨A,off+q * 19+1,none⟩=some (.int .i64 y.dot.a.inc):=fun i=>i.cell (kept hBA F1);have pF2:∀ i:After WA,i.w.cell? ⟨A,off+q * 19+2,none⟩=some (.int .i64 y.dot.seq):=fun i=>i.cell (kept hBA F2);clear hWA hBA;iterate 12 go_big_quiet_step (fail)
     go_big_quiet_step (exact Calls.after (HL1 _))
     go_big_quiet_step (fail)
     refine wpQuiet_nil ?_;rintro _ ⟨i,rfl⟩;have hiA:=i.h;generalize i.w=wp at hiA ⊢;have hbY:Below wr.heap.size wr wp:=below2 hbA hiA;replace hB:=hB.trans (hbY.mono hB.size);clear hbA hiA hbY pD0 pD1 pD2 pF0 pF1 pF2;have HB2:=aq hB;clear hB;go_wp2;go_roundw
     case rel=>exact ⟨q+1,by go_num,HQT.out,HA2.out,HB2.out⟩
     case measure=>have:=HQT.out;simp [intOf] <;> omega
   | false =>
     rw [hly] at HL1;have HI:Hid (iV ls e.dot=q):=by unfold Hid;rw [HA.out,HN.out hly];omega
     clear hly;go_upto_region 2 with fail
     refine aN (by kernel_rfl) (by kernel_rfl) (fun WA hWA=>?_);have hbA:Below wr.heap.size wr WA:=by rw [hWA.out];go_grown
     have hBA:Below W0.heap.size W0 WA:=hB.trans (hbA.mono hB.size);have pD0:∀ i:After WA,i.w.cell? ⟨w.heap.size,0,none⟩=some (.int .i64 e.dot.a.dev):=fun i=>i.cell (kept hBA D0);have pD1:∀ i:After WA,i.w.cell? ⟨w.heap.size,1,none⟩=some (.int .i64 e.dot.a.inc):=fun i=>i.cell (kept hBA D1);have pD2:∀ i:After WA,i.w.cell? ⟨w.heap.size,2,none⟩=some (.int .i64 e.dot.seq):=fun i=>i.cell (kept hBA D2);have pF0:∀ i:After WA,i.w.cell? ⟨A,off+q * 19,none⟩=some (.int .i64 y.dot.a.dev):=fun i=>i.cell (kept hBA F0);have pF1:∀ i:After WA,i.w.cell? ⟨A,off+q * 19+1,none⟩=some (.int .i64 y.dot.a.inc):=fun i=>i.cell (kept hBA F1);have pF2:∀ i:After WA,i.w.cell? ⟨A,off+q * 19+2,none⟩=some (.int .i64 y.dot.seq):=fun i=>i.cell (kept hBA F2);clear hWA hBA;iterate 12 go_big_quiet_step (fail)
     go_big_quiet_step (exact Calls.after (HL1 _))
     go_big_quiet_step (fail)
     refine wpQuiet_nil ?_;rintro _ ⟨i,rfl⟩;have hiA:=i.h;generalize i.w=wp at hiA ⊢;have hbY:Below wr.heap.size wr wp:=below2 hbA hiA;replace hB:=hB.trans (hbY.mono hB.size);clear hbA hiA hbY pD0 pD1 pD2 pF0 pF1 pF2;go_upto_region 4 with fail
     refine aI (fun W hW=>?_);have hbW:Below wp.heap.size wp W.drew:=by rw [hW.out];go_grown
     have hBW:Below W0.heap.size W0 W.drew:=hB.trans (hbW.mono hB.size);have oz:=HC.out.kept hBW;have hzW:=hBW.size;have hq:=HQ.out;have hcut:∀ X,(Instr.sliceAt 33 (.slice (some ⟨A,off,none⟩) ls.length cap) none (some (.int .i64 (q:Nat))) none).run prog X=.ok (.slice (some ⟨A,off,none⟩) q cap) X:=fun X=>nZ X _ _ i0 (some ⟨A,off,none⟩) ls.length cap .i64 q underlying33 hi (by omega);have lX:∀ X,(Instr.sliceAt 33 (.slice (some ⟨A,off,none⟩) ls.length cap) (some (.int .i64 (q:Nat))) none none).run prog X=.ok (.slice (oV (some ⟨A,off,none⟩) cap q 19) (ls.length - q) (cap - q)) X:=fun X=>nY X _ _ i0 (some ⟨A,off,none⟩) ls.length cap .i64 q 19 underlying33 hi hz1 (by omega);have hR1:∀ X,Below W.drew.heap.size W.drew X->CellsIn X (some ⟨A,off,none⟩) (aX (ls.take q)):=fun X h=>by rw [<- EP];exact (oz.kept h).take _
     have hR2:∀ X,Below W.drew.heap.size W.drew X->CellsIn X (oV (some ⟨A,off,none⟩) cap q 19) (aX (ls.drop q)):=fun X h=>by rw [<- EQ];exact (oz.kept h).cut (kE ls) hlc q
     have l1:(aX (ls.take q)).length=q * 19:=by rw [kE,List.length_take,Nat.min_eq_left hq]
     have l2:(aX (ls.drop q)).length=(ls.length - q) * 19:=by rw [kE,List.length_drop]
     have hF:∀ X,Below W.drew.heap.size W.drew X->X.rangeAt w.heap.size 0 (az e ae ce):=fun X h=>ai (ai HR.out hBW) h;clear hW;refine wp_region_noPanic ?_;refine wp_region_held_drew (S:=fun W'=>Below W.drew.heap.size W.drew W') (by kernel_rfl) (bh _ _) (fun hHeld=>?_);refine tH (v:=?_) 1 23 rfl (bb ⟨by rfl,?_⟩) ?_
     case refine_2 => (intro w hSw; go_simp; try with_reducible rfl)
     try simp only [pS]
     refine tH (v:=?_) 2 24 rfl (bb ⟨by rfl,?_⟩) ?_
     case refine_2 => (intro w hSw; go_simp; try with_reducible rfl)
     try simp only [pS]
     refine tH 3 25 rfl (bb ⟨by rfl,fun W hSW=>iQ _ _ _ _ _ rfl _ (hcut W)⟩) ?_;try simp only [pS]
     refine tH 5 27 rfl (yieldsIf_load_mid (by rfl) 82 _ rfl w.heap.size 0 rfl (az e ae ce) _ (fun X h=>hF X h) underlying82 rfl (by kernel_rfl)) ?_;try simp only [pS]
     refine tH (v:=?_) 8 30 rfl (bb ⟨by rfl,?_⟩) ?_
     case refine_2 => (intro w hSw; go_simp; try with_reducible rfl)
     try simp only [pS]
     refine tH (v:=?_) 9 31 rfl (bb ⟨by rfl,?_⟩) ?_
     case refine_2 => (intro w hSw; go_simp; try with_reducible rfl)
     try simp only [pS]
     refine tH 10 32 rfl (bb ⟨by rfl,fun W hSW=>iQ _ _ _ _ _ rfl _ (lX W)⟩) ?_;try simp only [pS]
     refine wpAnyH_ready (rs:=[0,6]) (by kernel_rfl) (by simp) ?_;refine AllReadyH.cons (o:=⟨some 22,_,_,_,_,_⟩) rfl (fun K hK=>?_) (AllReadyH.cons (o:=⟨some 28,_,_,_,_,_⟩) rfl (fun K hK=>?_) AllReadyH.nil);focus
      refine dw (by rfl) 33 82 rfl i0 _ 19 underlying33 hi hz0 hz1 (by decide) ?_;intro v0 X0 hown0 hbel0;refine hK.out _ _ ?_ (fun ah=>?_)
      ·exact z72
      clear hK K hHeld;have hHeld:=ah;clear ah;try simp only [pS]
      refine wpAnyH_ready (rs:=[4,6]) (by kernel_rfl) (by simp) ?_;refine AllReadyH.cons (o:=⟨some 26,_,_,_,_,_⟩) rfl (fun K hK=>?_) (AllReadyH.cons (o:=⟨some 28,_,_,_,_,_⟩) rfl (fun K hK=>?_) AllReadyH.nil);focus
       refine au (by rfl) (.tmp 22) (.tmp 25) 33 rfl W.drew.heap.size 82 i0 _ 19 176 underlying33 hi hz0 hz1 hz2 rfl (by decide) _ 0 _ rfl hown0 (some ⟨A,off,none⟩) q cap (aX (ls.take q)) rfl l1 (hR1 _ hHeld) (l9 _) (by first | omega | (unfold maxLen;omega)) (by first | omega | (unfold maxLen;omega)) hHeld.size ?_;intro v1 X1 hown1 hg1;refine hK.out _ _ ?_ (fun ah=>?_)
       ·exact z36
       clear hK K hHeld;have hHeld:=ah;clear ah;try simp only [pS]
       refine rH 6 28 rfl fun K hK=>?_;refine bz (by rfl) 33 82 _ rfl (az e ae ce).toArray 19 rfl rfl (by decide) (by decide) underlying33 (by kernel_rfl) (by kernel_rfl) ?_;refine hK.out _ _ ?_ (fun ah=>?_)
       ·exact z71
       clear hK K hHeld;have hHeld:=ah;clear ah;try simp only [pS]
       have hN:=(fun X=>jG X e ae ce) X1;refine rH 7 29 rfl fun K hK=>?_;refine au (by rfl) (.tmp 26) (.tmp 28) 33 rfl W.drew.heap.size 82 i0 _ 19 176 underlying33 hi hz0 hz1 hz2 rfl (by decide) _ (0+q) _ rfl (hown1.alloc _) (some ⟨X1.heap.size,0,none⟩) 1 1 (az e ae ce) rfl rfl hN (gZ _ _ _) (by first | omega | (unfold maxLen;omega)) (by first | omega | (unfold maxLen;omega)) hHeld.size ?_;intro v2 X2 hown2 hg2;refine hK.out _ _ ?_ (fun ah=>?_)
       ·exact z37
       clear hK K hHeld;have hHeld:=ah;clear ah;try simp only [pS]
      rotate_left 1;focus
       refine bz (by rfl) 33 82 _ rfl (az e ae ce).toArray 19 rfl rfl (by decide) (by decide) underlying33 (by kernel_rfl) (by kernel_rfl) ?_;refine hK.out _ _ ?_ (fun ah=>?_)
       ·exact z71
       clear hK K hHeld;have hHeld:=ah;clear ah;try simp only [pS]
       have hN:=(fun X=>jG X e ae ce) X0;refine rH 4 26 rfl fun K hK=>?_;refine au (by rfl) (.tmp 22) (.tmp 25) 33 rfl W.drew.heap.size 82 i0 _ 19 176 underlying33 hi hz0 hz1 hz2 rfl (by decide) _ 0 _ rfl (hown0.alloc _) (some ⟨A,off,none⟩) q cap (aX (ls.take q)) rfl l1 (hR1 _ hHeld) (l9 _) (by first | omega | (unfold maxLen;omega)) (by first | omega | (unfold maxLen;omega)) hHeld.size ?_;intro v1 X1 hown1 hg1;refine hK.out _ _ ?_ (fun ah=>?_)
       ·exact z36
       clear hK K hHeld;have hHeld:=ah;clear ah;try simp only [pS]
       replace hN:=hN.grown hg1 (fun q hq e=>by have:=(hown0.lt _ e).2;simp only [Option.some.injEq] at hq;subst hq;simp only at this;omega);refine rH 7 29 rfl fun K hK=>?_;refine au (by rfl) (.tmp 26) (.tmp 28) 33 rfl W.drew.heap.size 82 i0 _ 19 176 underlying33 hi hz0 hz1 hz2 rfl (by decide) _ (0+q) _ rfl hown1 (some ⟨X0.heap.size,0,none⟩) 1 1 (az e ae ce) rfl rfl hN (gZ _ _ _) (by first | omega | (unfold maxLen;omega)) (by first | omega | (unfold maxLen;omega)) hHeld.size ?_;intro v2 X2 hown2 hg2;refine hK.out _ _ ?_ (fun ah=>?_)
       ·exact z37
       clear hK K hHeld;have hHeld:=ah;clear ah;try simp only [pS]
     rotate_left 2;focus
      refine bz (by rfl) 33 82 _ rfl (az e ae ce).toArray 19 rfl rfl (by decide) (by decide) underlying33 (by kernel_rfl) (by kernel_rfl) ?_;refine hK.out _ _ ?_ (fun ah=>?_)
      ·exact z71
      clear hK K hHeld;have hHeld:=ah;clear ah;try simp only [pS]
      have hN:=(fun X=>jG X e ae ce) W.drew;refine rH 0 22 rfl fun K hK=>?_;refine dw (by rfl) 33 82 rfl i0 _ 19 underlying33 hi hz0 hz1 (by decide) ?_;intro v0 X0 hown0 hbel0;refine hK.out _ _ ?_ (fun ah=>?_)
      ·exact z72
      clear hK K hHeld;have hHeld:=ah;clear ah;try simp only [pS]
      replace hN:=hN.kept hbel0;have tu:=hown0;replace hown0:=own_base hown0 (b2:=W.drew.heap.size) (by first | exact ar _ | simp);refine rH 4 26 rfl fun K hK=>?_;refine au (by rfl) (.tmp 22) (.tmp 25) 33 rfl W.drew.heap.size 82 i0 _ 19 176 underlying33 hi hz0 hz1 hz2 rfl (by decide) _ 0 _ rfl hown0 (some ⟨A,off,none⟩) q cap (aX (ls.take q)) rfl l1 (hR1 _ hHeld) (l9 _) (by first | omega | (unfold maxLen;omega)) (by first | omega | (unfold maxLen;omega)) hHeld.size ?_;intro v1 X1 hown1 hg1;refine hK.out _ _ ?_ (fun ah=>?_)
      ·exact z36
      clear hK K hHeld;have hHeld:=ah;clear ah;try simp only [pS]
      replace hN:=hN.grown hg1 (fun q hq e=>by have:=(tu.lt _ e).1;simp only [Option.some.injEq] at hq;subst hq;simp at this;omega);refine rH 7 29 rfl fun K hK=>?_;refine au (by rfl) (.tmp 26) (.tmp 28) 33 rfl W.drew.heap.size 82 i0 _ 19 176 underlying33 hi hz0 hz1 hz2 rfl (by decide) _ (0+q) _ rfl hown1 (some ⟨W.drew.heap.size,0,none⟩) 1 1 (az e ae ce) rfl rfl hN (gZ _ _ _) (by first | omega | (unfold maxLen;omega)) (by first | omega | (unfold maxLen;omega)) hHeld.size ?_;intro v2 X2 hown2 hg2;refine hK.out _ _ ?_ (fun ah=>?_)
      ·exact z37
      clear hK K hHeld;have hHeld:=ah;clear ah;try simp only [pS]
     all_goals
      refine rH 11 33 rfl fun K hK=>?_;refine au (by rfl) (.tmp 29) (.tmp 32) 33 rfl W.drew.heap.size 82 i0 _ 19 176 underlying33 hi hz0 hz1 hz2 rfl (by decide) _ (0+q+1) _ rfl hown2 (oV (some ⟨A,off,none⟩) cap q 19) (ls.length - q) (cap - q) (aX (ls.drop q)) rfl l2 (hR2 _ hHeld) (l9 _) (by first | omega | (unfold maxLen;omega)) (by first | omega | (unfold maxLen;omega)) hHeld.size ?_;intro v3 X3 hown3 hg3;refine hK.out _ _ ?_ (fun ah=>?_)
      ·exact z87
      clear hK K hHeld;have hHeld:=ah;clear ah;try simp only [pS]
      refine tH (v:=?_) 12 4 rfl (bb ⟨by rfl,?_⟩) ?_
      case refine_2 => (intro w hSw; go_simp; try with_reducible rfl)
      try simp only [pS]
      refine wpAnyH_done (by kernel_rfl) ?_ _;refine NoPanic.normal ?_;have e1:[]++aX (ls.take q)++az e ae ce++aX (ls.drop q)=aX (iY ls (e,ae,ce)):=by unfold iY;rw [HI.out];simp [aX]
      have e2:0+q+1+(ls.length - q)=(iY ls (e,ae,ce)).length:=by rw [EC];omega
      rw [e1,e2] at hown3;obtain ⟨a2,c2,rfl,hcell2,hc2⟩:=fP hown3;obtain ⟨a3,c3,he3,oD⟩:=nN hown3 (fun x hx=>(HD.out x hx).kept (hBW.trans (hHeld.mono hzW)));obtain ⟨rfl,rfl⟩:a2=a3/\c2=c3:=by cases he3;exact ⟨rfl,rfl⟩
      have HZ:=aq (ba (eP hown3 (Nat.le_trans hz0' hzW)) (ba oD (ba hc2 (hb0.trans ((hBW.trans (hHeld.mono hzW)).mono hz0')))));clear e1 e2 hR1 hR2 l1 l2 hF hcut lX hown3 hHeld oz hBW hbW oD hcell2 hc2 he3;go_wp2;go_ret;exact ⟨a2,c2,rfl,HZ.out.1,HZ.out.2.1,HZ.out.2.2.1,HZ.out.2.2.2⟩
  ·have HI:Hid (iV ls e.dot=q):=by unfold Hid;rw [HA.out,List.drop_eq_nil_of_le (by omega)];rfl
   have hqd:decide (q<ls.length)=false:=aM hqt;have hqi:decide ((q:Int)<(ls.length:Int))=false:=aM (by omega);go_upto_region 2 with fail
   refine aN (by kernel_rfl) (by kernel_rfl) (fun WA hWA=>?_);have hbA:Below wr.heap.size wr WA:=by rw [hWA.out];go_grown
   have hBA:Below W0.heap.size W0 WA:=hB.trans (hbA.mono hB.size);have pD0:∀ i:After WA,i.w.cell? ⟨w.heap.size,0,none⟩=some (.int .i64 e.dot.a.dev):=fun i=>i.cell (kept hBA D0);have pD1:∀ i:After WA,i.w.cell? ⟨w.heap.size,1,none⟩=some (.int .i64 e.dot.a.inc):=fun i=>i.cell (kept hBA D1);have pD2:∀ i:After WA,i.w.cell? ⟨w.heap.size,2,none⟩=some (.int .i64 e.dot.seq):=fun i=>i.cell (kept hBA D2);clear hWA hBA;iterate 14 go_big_quiet_step (fail)
   refine wpQuiet_nil ?_;rintro _ ⟨i,rfl⟩;have hiA:=i.h;generalize i.w=wp at hiA ⊢;have hbY:Below wr.heap.size wr wp:=below2 hbA hiA;replace hB:=hB.trans (hbY.mono hB.size);clear hbA hiA hbY pD0 pD1 pD2;go_upto_region 4 with fail
   refine aI (fun W hW=>?_);have hbW:Below wp.heap.size wp W.drew:=by rw [hW.out];go_grown
   have hBW:Below W0.heap.size W0 W.drew:=hB.trans (hbW.mono hB.size);have oz:=HC.out.kept hBW;have hzW:=hBW.size;have hq:=HQ.out;have hcut:∀ X,(Instr.sliceAt 33 (.slice a ls.length cap) none (some (.int .i64 (q:Nat))) none).run prog X=.ok (.slice a q cap) X:=fun X=>nZ X _ _ i0 a ls.length cap .i64 q underlying33 hi (by omega);have lX:∀ X,(Instr.sliceAt 33 (.slice a ls.length cap) (some (.int .i64 (q:Nat))) none none).run prog X=.ok (.slice (oV a cap q 19) (ls.length - q) (cap - q)) X:=fun X=>nY X _ _ i0 a ls.length cap .i64 q 19 underlying33 hi hz1 (by omega);have hR1:∀ X,Below W.drew.heap.size W.drew X->CellsIn X a (aX (ls.take q)):=fun X h=>by rw [<- EP];exact (oz.kept h).take _
   have hR2:∀ X,Below W.drew.heap.size W.drew X->CellsIn X (oV a cap q 19) (aX (ls.drop q)):=fun X h=>by rw [<- EQ];exact (oz.kept h).cut (kE ls) hlc q
   have l1:(aX (ls.take q)).length=q * 19:=by rw [kE,List.length_take,Nat.min_eq_left hq]
   have l2:(aX (ls.drop q)).length=(ls.length - q) * 19:=by rw [kE,List.length_drop]
   have hF:∀ X,Below W.drew.heap.size W.drew X->X.rangeAt w.heap.size 0 (az e ae ce):=fun X h=>ai (ai HR.out hBW) h;clear hW
   refine y63 ?_
   intro hHeld
   refine tH (v:=?_) 1 23 rfl (bb ⟨by rfl,?_⟩) ?_
   case refine_2 => (intro w hSw; go_simp; try with_reducible rfl)
   try simp only [pS]
   refine tH (v:=?_) 2 24 rfl (bb ⟨by rfl,?_⟩) ?_
   case refine_2 => (intro w hSw; go_simp; try with_reducible rfl)
   try simp only [pS]
   refine tH 3 25 rfl (bb ⟨by rfl,fun W hSW=>iQ _ _ _ _ _ rfl _ (hcut W)⟩) ?_;try simp only [pS]
   refine tH 5 27 rfl (yieldsIf_load_mid (by rfl) 82 _ rfl w.heap.size 0 rfl (az e ae ce) _ (fun X h=>hF X h) underlying82 rfl (by kernel_rfl)) ?_;try simp only [pS]
   refine tH (v:=?_) 8 30 rfl (bb ⟨by rfl,?_⟩) ?_
   case refine_2 => (intro w hSw; go_simp; try with_reducible rfl)
   try simp only [pS]
   refine tH (v:=?_) 9 31 rfl (bb ⟨by rfl,?_⟩) ?_
   case refine_2 => (intro w hSw; go_simp; try with_reducible rfl)
   try simp only [pS]
   refine tH 10 32 rfl (bb ⟨by rfl,fun W hSW=>iQ _ _ _ _ _ rfl _ (lX W)⟩) ?_;try simp only [pS]
   refine wpAnyH_ready (rs:=[0,6]) (by kernel_rfl) (by simp) ?_;refine AllReadyH.cons (o:=⟨some 22,_,_,_,_,_⟩) rfl (fun K hK=>?_) (AllReadyH.cons (o:=⟨some 28,_,_,_,_,_⟩) rfl (fun K hK=>?_) AllReadyH.nil);focus
        refine dw (by rfl) 33 82 rfl i0 _ 19 underlying33 hi hz0 hz1 (by decide) ?_;intro v0 X0 hown0 hbel0;refine hK.out _ _ ?_ (fun ah=>?_)
        ·exact z72
        clear hK K hHeld;have hHeld:=ah;clear ah;try simp only [pS]
        refine wpAnyH_ready (rs:=[4,6]) (by kernel_rfl) (by simp) ?_;refine AllReadyH.cons (o:=⟨some 26,_,_,_,_,_⟩) rfl (fun K hK=>?_) (AllReadyH.cons (o:=⟨some 28,_,_,_,_,_⟩) rfl (fun K hK=>?_) AllReadyH.nil);focus
         refine au (by rfl) (.tmp 22) (.tmp 25) 33 rfl W.drew.heap.size 82 i0 _ 19 176 underlying33 hi hz0 hz1 hz2 rfl (by decide) _ 0 _ rfl hown0 a q cap (aX (ls.take q)) rfl l1 (hR1 _ hHeld) (l9 _) (by first | omega | (unfold maxLen;omega)) (by first | omega | (unfold maxLen;omega)) hHeld.size ?_;intro v1 X1 hown1 hg1;refine hK.out _ _ ?_ (fun ah=>?_)
         ·exact z36
         clear hK K hHeld;have hHeld:=ah;clear ah;try simp only [pS]
         refine rH 6 28 rfl fun K hK=>?_;refine bz (by rfl) 33 82 _ rfl (az e ae ce).toArray 19 rfl rfl (by decide) (by decide) underlying33 (by kernel_rfl) (by kernel_rfl) ?_;refine hK.out _ _ ?_ (fun ah=>?_)
         ·exact z71
         clear hK K hHeld;have hHeld:=ah;clear ah;try simp only [pS]
         have hN:=(fun X=>jG X e ae ce) X1;refine rH 7 29 rfl fun K hK=>?_;refine au (by rfl) (.tmp 26) (.tmp 28) 33 rfl W.drew.heap.size 82 i0 _ 19 176 underlying33 hi hz0 hz1 hz2 rfl (by decide) _ (0+q) _ rfl (hown1.alloc _) (some ⟨X1.heap.size,0,none⟩) 1 1 (az e ae ce) rfl rfl hN (gZ _ _ _) (by first | omega | (unfold maxLen;omega)) (by first | omega | (unfold maxLen;omega)) hHeld.size ?_;intro v2 X2 hown2 hg2;refine hK.out _ _ ?_ (fun ah=>?_)
         ·exact z37
         clear hK K hHeld;have hHeld:=ah;clear ah;try simp only [pS]
        rotate_left 1;focus
         refine bz (by rfl) 33 82 _ rfl (az e ae ce).toArray 19 rfl rfl (by decide) (by decide) underlying33 (by kernel_rfl) (by kernel_rfl) ?_;refine hK.out _ _ ?_ (fun ah=>?_)
         ·exact z71
         clear hK K hHeld;have hHeld:=ah;clear ah;try simp only [pS]
         have hN:=(fun X=>jG X e ae ce) X0;refine rH 4 26 rfl fun K hK=>?_;refine au (by rfl) (.tmp 22) (.tmp 25) 33 rfl W.drew.heap.size 82 i0 _ 19 176 underlying33 hi hz0 hz1 hz2 rfl (by decide) _ 0 _ rfl (hown0.alloc _) a q cap (aX (ls.take q)) rfl l1 (hR1 _ hHeld) (l9 _) (by first | omega | (unfold maxLen;omega)) (by first | omega | (unfold maxLen;omega)) hHeld.size ?_;intro v1 X1 hown1 hg1;refine hK.out _ _ ?_ (fun ah=>?_)
         ·exact z36
         clear hK K hHeld;have hHeld:=ah;clear ah;try simp only [pS]
         replace hN:=hN.grown hg1 (fun q hq e=>by have:=(hown0.lt _ e).2;simp only [Option.some.injEq] at hq;subst hq;simp only at this;omega);refine rH 7 29 rfl fun K hK=>?_;refine au (by rfl) (.tmp 26) (.tmp 28) 33 rfl W.drew.heap.size 82 i0 _ 19 176 underlying33 hi hz0 hz1 hz2 rfl (by decide) _ (0+q) _ rfl hown1 (some ⟨X0.heap.size,0,none⟩) 1 1 (az e ae ce) rfl rfl hN (gZ _ _ _) (by first | omega | (unfold maxLen;omega)) (by first | omega | (unfold maxLen;omega)) hHeld.size ?_;intro v2 X2 hown2 hg2;refine hK.out _ _ ?_ (fun ah=>?_)
         ·exact z37
         clear hK K hHeld;have hHeld:=ah;clear ah;try simp only [pS]
   rotate_left 2;focus
        refine bz (by rfl) 33 82 _ rfl (az e ae ce).toArray 19 rfl rfl (by decide) (by decide) underlying33 (by kernel_rfl) (by kernel_rfl) ?_;refine hK.out _ _ ?_ (fun ah=>?_)
        ·exact z71
        clear hK K hHeld;have hHeld:=ah;clear ah;try simp only [pS]
        have hN:=(fun X=>jG X e ae ce) W.drew;refine rH 0 22 rfl fun K hK=>?_;refine dw (by rfl) 33 82 rfl i0 _ 19 underlying33 hi hz0 hz1 (by decide) ?_;intro v0 X0 hown0 hbel0;refine hK.out _ _ ?_ (fun ah=>?_)
        ·exact z72
        clear hK K hHeld;have hHeld:=ah;clear ah;try simp only [pS]
        replace hN:=hN.kept hbel0;have tu:=hown0;replace hown0:=own_base hown0 (b2:=W.drew.heap.size) (by first | exact ar _ | simp);refine rH 4 26 rfl fun K hK=>?_;refine au (by rfl) (.tmp 22) (.tmp 25) 33 rfl W.drew.heap.size 82 i0 _ 19 176 underlying33 hi hz0 hz1 hz2 rfl (by decide) _ 0 _ rfl hown0 a q cap (aX (ls.take q)) rfl l1 (hR1 _ hHeld) (l9 _) (by first | omega | (unfold maxLen;omega)) (by first | omega | (unfold maxLen;omega)) hHeld.size ?_;intro v1 X1 hown1 hg1;refine hK.out _ _ ?_ (fun ah=>?_)
        ·exact z36
        clear hK K hHeld;have hHeld:=ah;clear ah;try simp only [pS]
        replace hN:=hN.grown hg1 (fun q hq e=>by have:=(tu.lt _ e).1;simp only [Option.some.injEq] at hq;subst hq;simp at this;omega);refine rH 7 29 rfl fun K hK=>?_;refine au (by rfl) (.tmp 26) (.tmp 28) 33 rfl W.drew.heap.size 82 i0 _ 19 176 underlying33 hi hz0 hz1 hz2 rfl (by decide) _ (0+q) _ rfl hown1 (some ⟨W.drew.heap.size,0,none⟩) 1 1 (az e ae ce) rfl rfl hN (gZ _ _ _) (by first | omega | (unfold maxLen;omega)) (by first | omega | (unfold maxLen;omega)) hHeld.size ?_;intro v2 X2 hown2 hg2;refine hK.out _ _ ?_ (fun ah=>?_)
        ·exact z37
        clear hK K hHeld;have hHeld:=ah;clear ah;try simp only [pS]
   all_goals
        refine rH 11 33 rfl fun K hK=>?_;refine au (by rfl) (.tmp 29) (.tmp 32) 33 rfl W.drew.heap.size 82 i0 _ 19 176 underlying33 hi hz0 hz1 hz2 rfl (by decide) _ (0+q+1) _ rfl hown2 (oV a cap q 19) (ls.length - q) (cap - q) (aX (ls.drop q)) rfl l2 (hR2 _ hHeld) (l9 _) (by first | omega | (unfold maxLen;omega)) (by first | omega | (unfold maxLen;omega)) hHeld.size ?_;intro v3 X3 hown3 hg3;refine hK.out _ _ ?_ (fun ah=>?_)
        ·exact z87
        clear hK K hHeld;have hHeld:=ah;clear ah;try simp only [pS]
        refine tH (v:=?_) 12 4 rfl (bb ⟨by rfl,?_⟩) ?_
        case refine_2 => (intro w hSw; go_simp; try with_reducible rfl)
        try simp only [pS]
        refine wpAnyH_done (by kernel_rfl) ?_ _;refine NoPanic.normal ?_;have e1:[]++aX (ls.take q)++az e ae ce++aX (ls.drop q)=aX (iY ls (e,ae,ce)):=by unfold iY;rw [HI.out];simp [aX]
        have e2:0+q+1+(ls.length - q)=(iY ls (e,ae,ce)).length:=by rw [EC];omega
        rw [e1,e2] at hown3;obtain ⟨a2,c2,rfl,hcell2,hc2⟩:=fP hown3;obtain ⟨a3,c3,he3,oD⟩:=nN hown3 (fun x hx=>(HD.out x hx).kept (hBW.trans (hHeld.mono hzW)));obtain ⟨rfl,rfl⟩:a2=a3/\c2=c3:=by cases he3;exact ⟨rfl,rfl⟩
        have HZ:=aq (ba (eP hown3 (Nat.le_trans hz0' hzW)) (ba oD (ba hc2 (hb0.trans ((hBW.trans (hHeld.mono hzW)).mono hz0')))));clear e1 e2 hR1 hR2 l1 l2 hF hcut lX hown3 hHeld oz hBW hbW oD hcell2 hc2 he3;go_wp2;go_ret;exact ⟨a2,c2,rfl,HZ.out.1,HZ.out.2.1,HZ.out.2.2.1,HZ.out.2.2.2⟩
theorem wL {fn:Func} {p u v:Tmp} {ty:TypeId} (h:fn.results=#[.cell p ty,.tmp u,.tmp v]) (tmps:Array Value) (P:Program) (w:World) :
 (results fn tmps).run P w =
  ((asAddr (tmps.getD p undef)).run P w).andThen fun a w₁=>((loadVar ty a).run P w₁).andThen fun x w₂=>.ok (.tuple #[x,tmps.getD u undef,tmps.getD v undef]) w₂:=by
 simp only [results,h];simp [Sem.run_bind,Result.andThen]
theorem lL {P:Program} {fn:Func} {R:Ending->World->Prop} {a:Act} {w:World} (p u z:Tmp) (ty t:TypeId) (g:Nat) (c:Array Value) (d:TypeDesc) (v x:Value) (hr:fn.results=#[.cell p ty,.tmp u,.tmp z])
 (hp:a.tmps.getD p undef=.pointer (some ⟨g,0,none⟩)) (hv:a.tmps.getD u undef=v) (hx:a.tmps.getD z undef=x) (hg:w.heap[g]?=some (.cells c t (0,0))) (hu:P.underlying ty=some d) (hd:d.isRow=true) (hi:(P.info? ty).map (·.size)=some c.size)
 (hde:a.defers=[]) (hR:R (.returned (.tuple #[.agg c,v,x])) w):bodyPost P fn R .ret a w:=by
 have h1:w.rangeAt g 0 c.toList:=fun j v hv=>by
  exact z102
 have h2:=run_loadVar_mid (P:=P) w g 0 ty c.toList d h1 hu hd (by simpa using hi);refine bodyPost_ret ?_ hde hR;rw [wL hr,hp,hv,hx];simp [asAddr,h2,Result.andThen]
theorem o9 {B:Nat} {w w':World} (h:Below B w w') {p:Addr} {v:Value} (hp:p.block<B) (hc:w.cell? p=some v):w'.cell? p=some v:=(World.cell?_of_block (h.block p.block hp)).trans hc
theorem PP {B:Nat} {w w':World} (h:Below B w w') {b o:Nat} {cs:List Value} (hb:b<B) (hc:w.rangeAt b o cs):w'.rangeAt b o cs:=fun j v hv=>o9 h hb (hc j v hv)
/-- an append to one row leaves another row, of another type, as it is -/
theorem jR {w w':World} {base b2 n m size s2:Nat} {e e2:TypeId} {v v2:Value} {xs ys:List Value} (h:w.ownsRow base e size v n xs) (k:w.ownsRow b2 e2 s2 v2 m ys) (hne:e≠e2) (hg:w.grownBy w' v2.ownBlock):w'.ownsRow base e size v n xs:=by
 refine ⟨h.1,?_⟩;rcases h.2 with h2 | ⟨g,cap,cur,hv,hbs,hb,rest⟩
 ·exact .inl h2
 ·refine .inr ⟨g,cap,cur,hv,hbs,(hg.block g (lt_of_block hb) (fun e3=>?_)).trans hb,rest⟩
  rcases k.2 with ⟨rfl,_⟩ | ⟨g2,cap2,Yj,rfl,_,hb2,_⟩
  ·simp [Value.ownBlock] at e3
  ·obtain rfl:g=g2:=by simpa [Value.ownBlock] using e3
   rw [hb] at hb2;simp only [Option.some.injEq,Obj.cells.injEq] at hb2;exact hne hb2.2.1
theorem OE {w:World} {g:Nat} (cs:Array Value):Fr (isR g) w (w.setRow g cs):=⟨rfl,rfl,rfl,by simp,fun k _ hk=>bi _ _ _ _ (fun e=>hk e.symm)⟩
theorem nI {a b:Option Addr} {n m c d:Nat} (h:Value.slice a n c=Value.slice b m d):a=b/\c=d:=by
 simp only [Value.slice.injEq] at h;exact ⟨h.1,h.2.2⟩
/-- the reference's map, plainly -/
structure RM where
 ctx:List Dot
 kept:List Ev
 dead:List Dot
/-- and with the addresses of its lists -/
structure RMIt where
 ac:Option Addr
 ctx:List Dot
 cc:Nat
 aK:Option Addr
 K:List EvIt
 cK:Nat
 ad:Option Addr
 dead:List Dot
 cd:Nat
abbrev RZ (x:RMIt):List Value:=[.slice x.ac x.ctx.length x.cc,.slice x.aK x.K.length x.cK,.slice x.ad x.dead.length x.cd]
abbrev Ed (x:RMIt):Value:=.agg #[.slice x.ac x.ctx.length x.cc,.slice x.aK x.K.length x.cK,.slice x.ad x.dead.length x.cd]
def RMIt.rm (x:RMIt):RM:=⟨x.ctx,evsOf x.K,x.dead⟩
structure RMIn (w:World) (x:RMIt):Prop where
 ctx:DotsIn w x.ac x.ctx
 kept:EvsIn w x.aK x.K
 dead:DotsIn w x.ad x.dead
 cc:x.ctx.length<=x.cc
 cK:x.K.length<=x.cK
 cd:x.dead.length<=x.cd
theorem RMIn.keep {w w':World} {x:RMIt} (h:RMIn w x) (hb:Below w.heap.size w w'):RMIn w' x:=⟨h.ctx.kept hb,h.kept.kept hb,h.dead.kept hb,h.cc,h.cK,h.cd⟩
structure RMSize (x:RMIt):Prop where
 ctx:x.ctx.length<=1048576
 K:x.K.length<=524288
 dead:x.dead.length<=524288
 ok:∀ d∈x.ctx,bn d=true
def GV (r:RM) (e:Ev):Bool:=dm e && (!iq r.ctx e.dot && (decide (fC r.ctx e.dot.a+1=e.dot.seq) && decide (r.kept.length<2048)))
def PM (r:RM) (e:Ev):Int:=if dm e=true then (if iq r.ctx e.dot=true then 0 else if fC r.ctx e.dot.a+1=e.dot.seq then (if r.kept.length<2048 then 0 else 9) else 6) else 1
def rW (r:RM) (e:Ev):RM:=if GV r e=true then ⟨jP r.ctx e.dot.a e.dot.seq,sZ e r.kept,sortD (r.dead++e.over)⟩ else r
theorem Mc (x:RMIt) (e:Ev) (ae:Option Addr) (ce:Nat) {aS aP aD:Option Addr} {cS cP cD:Nat} (h:GV x.rm e=true):RMIt.rm ⟨aS,jP x.ctx e.dot.a e.dot.seq,cS,aP,iY x.K (e,ae,ce),cP,aD,sortD (x.dead++e.over),cD⟩=rW x.rm e:=by
 unfold rW;rw [h,if_pos rfl];show (⟨jP x.ctx e.dot.a e.dot.seq,evsOf (iY x.K (e,ae,ce)),sortD (x.dead++e.over)⟩:RM)=_;rw [EN];rfl
def Uc (r:RM) (e:Ev) (w:World) (x:Ending) (w':World):Prop :=
 ∃ y,x=.returned (.tuple #[Ed y,.bool (GV r e),.int .i64 (PM r e)])/\RMIn w' y/\y.rm=rW r e/\Below w.heap.size w w'
theorem DotsIn.dcells {w:World} {a:Option Addr} {l:List Dot} (h:DotsIn w a l):CellsIn w a (aJ l):=by
 rcases h with h | ⟨A,off,h1,h2⟩
 ·exact bb (by rw [h];rfl)
 ·refine bd ⟨A,off,h1,fun j v hv=>?_⟩
  subst h1;have:=h2.news j v hv;rwa [Addr.add_mid] at this
theorem z35 {p : Prop} (h : p := by
 have c0 := kept hB C0
 have c1 := kept hB C1
 have c2 := kept hB C2
 have hZX := (hB.block _ (lt_of_block hZ)).trans hZ
 have HBX := aq (hb0.trans (hB.mono hb0.size))
 clear hB
 go_wp2_with (refine wpList_store_row rfl 46 _ _ rfl (w.heap.size + 2) #[.slice x.ac x.ctx.length x.cc, .slice x.aK x.K.length x.cK, .slice x.ad x.dead.length x.cd] rfl rfl 46 CZ hZX (by kernel_rfl) hZs (by kernel_rfl) ?_)
 refine lL 4 5 6 46 46 (w.heap.size + 2) #[.slice x.ac x.ctx.length x.cc, .slice x.aK x.K.length x.cK, .slice x.ad x.dead.length x.cd] _ _ _ rfl rfl rfl rfl (setRow_heap _ _ _ _ _ _ hZX) underlying46 rfl (by kernel_rfl) rfl ?_
 have hbS := below_setRow HBX.out (by omega : w.heap.size <= w.heap.size + 2) #[.slice x.ac x.ctx.length x.cc, .slice x.aK x.K.length x.cK, .slice x.ad x.dead.length x.cd]
 exact ⟨x, by rw [HO.out, HE.out]; rfl, HH.out.keep hbS, by unfold rW; rw [HO.out, if_neg (by decide)], hbS⟩) : p := h
theorem z7 {p : Prop} (h : p := by (intro w hSw; have sC0 := o9 hSw (by simp) vC0; have sC1 := o9 hSw (by simp) vC1; have sC2 := o9 hSw (by simp) vC2; have sE0 := o9 hSw (by simp) vE0; have sE1 := o9 hSw (by simp) vE1; have sE2 := o9 hSw (by simp) vE2; have XD := o9 hSw (by simp) WR; go_simp; try with_reducible rfl)) : p := h
theorem z73 {p : Prop} (h : p := by
 have h9 : XA.ownsRow V.drew.heap.size 76 3 vT (x.dead ++ e.over).length (aJ (x.dead ++ e.over)) := by
  rw [av, ui]
  rw [aw, List.nil_append] at hown
  exact hown
 obtain ⟨a, c, h1, h2⟩ := iF h9
 exact ⟨a, c, by rw [h1, av], h2⟩) : p := h
theorem y43 {p q : Prop} (k : q) (h : PLift q -> p := by
 intro kk
 refine dM (by rfl) 46 _ _ rfl (w.heap.size + 2) #[.slice aS (jP x.ctx e.dot.a e.dot.seq).length cS, .slice aP (iY x.K (e, ae, ce)).length cP, .slice aD (sortD (x.dead ++ e.over)).length cD] rfl rfl 46 CZ hZX (by kernel_rfl) hZs (by kernel_rfl) ?_
 refine hK.out _ _ (below_setRow dN (ar _) _) (fun ah => ?_)
 try simp only [pS]
 revert ah
 exact kk.down) : p := h ⟨k⟩
theorem y16 {p q : Prop} (k : q) (h : PLift q -> p := by
 intro kk
 refine lL 4 5 6 46 46 (w.heap.size + 2) #[.slice aS (jP x.ctx e.dot.a e.dot.seq).length cS, .slice aP (iY x.K (e, ae, ce)).length cP, .slice aD (sortD (x.dead ++ e.over)).length cD] _ _ _ rfl rfl rfl rfl (setRow_heap _ _ _ _ _ _ hZX) underlying46 rfl (by kernel_rfl) rfl ?_
 have hbS := below_setRow (HBV.out.trans (hHeld.mono (Nat.le_of_lt (Nat.lt_of_le_of_lt (Nat.le_add_right _ 2) hlo)))) (by omega : w.heap.size <= w.heap.size + 2) #[.slice aS (jP x.ctx e.dot.a e.dot.seq).length cS, .slice aP (iY x.K (e, ae, ce)).length cP, .slice aD (sortD (x.dead ++ e.over)).length cD]
 have hne : ∀ (v : Value) (n : Nat) (t : TypeId) (sz : Nat) (cs : List Value), wD.ownsRow V.drew.heap.size t sz v n cs -> (wD.setRow (w.heap.size + 2) #[.slice aS (jP x.ctx e.dot.a e.dot.seq).length cS, .slice aP (iY x.K (e, ae, ce)).length cP, .slice aD (sortD (x.dead ++ e.over)).length cD]).ownsRow V.drew.heap.size t sz v n cs := fun v n t sz cs h9 => h9.kept2 (OE _) (fun g hg e => by have := (h9.lt g hg).1; omega)
 obtain ⟨a1, c1, he1, hd1⟩ := Eo (hne _ _ _ _ _ hS)
 revert hbS hne a1 c1 he1 hd1
 exact kk.down) : p := h ⟨k⟩
theorem y9 {p q : Prop} (k : q) (h : PLift q -> p := by
 intro kk
 try simp only [pS]
 refine rH 16 50 rfl fun K hK => ?_
 refine au (by rfl) (.tmp 47) (.tmp 49) 44 rfl V.drew.heap.size 76 iD _ 3 24 underlying44 hD hD0 hD1 hD2 rfl (by decide) _ 0 [] rfl hown x.ad x.dead.length x.cd (aJ x.dead) rfl (by rw [dX]) (vd.kept hHeld) (dB _) (by unfold maxLen; omega) (by omega) hHeld.size ?_
 intro vA XA hownA hgA
 have hownO := hown
 have hown := hownA
 clear hownA
 have hNext := hHeld.grown hgA hHeld.size (fun k hk => (hownO.lt k hk).1)
 refine hK.out _ _ (hNext.mono (by omega)) (fun ah => ?_)
 clear hK K
 have hHeld := hNext
 have dN := ah
 clear ah hNext
 replace hS := jR hS hownO (by decide) hgA
 replace hP := jR hP hownO (by decide) hgA
 clear hgA hownO
 try simp only [pS]
 refine rH 19 53 rfl fun K hK => ?_
 refine au (by rfl) (.tmp 50) (.tmp 52) 44 rfl V.drew.heap.size 76 iD _ 3 24 underlying44 hD hD0 hD1 hD2 rfl (by decide) _ (0 + x.dead.length) ([] ++ aJ x.dead) rfl hown ae e.over.length ce (aJ e.over) rfl (by rw [dX]) (vo.kept hHeld) (dB _) (by unfold maxLen; omega) (by omega) hHeld.size ?_
 intro vA XA hownA hgA
 have hownO := hown
 clear hown
 have hown := hownA
 clear hownA
 have hNext := hHeld.grown hgA hHeld.size (fun k hk => (hownO.lt k hk).1)
 refine hK.out _ _ (hNext.mono (by omega)) (fun ah => ?_)
 clear hK K hHeld dN
 have hHeld := hNext
 have dN := ah
 clear ah hNext
 replace hS := jR hS hownO (by decide) hgA
 replace hP := jR hP hownO (by decide) hgA
 clear hgA hownO
 try simp only [pS]
 revert vA XA hown hHeld dN hS hP
 exact kk.down) : p := h ⟨k⟩
theorem y73 {p q : Prop} (k : q) (h : PLift q -> p := by
 intro kk
 have hDr := eP hD8 hHeld.size
 go_simp
 have hNext := hHeld.trans (hbD.mono hHeld.size)
 refine hK.out _ _ (hNext.mono (by omega)) (fun ah => ?_)
 have hHeld := hNext
 have dN := ah
 clear ah hNext
 replace hS := ownsRow_below hS hbD
 replace hP := ownsRow_below hP hbD
 revert hDr hHeld dN hS hP
 exact kk.down) : p := h ⟨k⟩
theorem y68 {p q : Prop} (k : q) (h : PLift q -> p := by
 intro kk
 try simp only [pS]
 refine wpAnyH_done (by kernel_rfl) ?_ _
 refine NoPanic.normal ?_
 exact kk.down) : p := h ⟨k⟩
theorem z2 {p : Prop} (h : p := by
 refine y9 ?_
 clear hown hHeld dN hS hP
 intro vA XA hown hHeld dN hS hP
 obtain ⟨vT, hvT⟩ : ∃ vT, vT = vA := ⟨_, rfl⟩
 rw [<- hvT] at hown
 obtain ⟨aT, cT, hT, Qu⟩ : ∃ a cap, vT = .slice a (x.dead.length + e.over.length) cap /\ DotsIn XA a (x.dead ++ e.over) := by
  exact z73
 rw [hT] at hvT
 subst hvT
 have HSo := aq (show Calls prog 116 #[.slice aT (x.dead.length + e.over.length) cT] XA _ from by
  have h9 := Uh.out XA aT cT (by rw [av]; omega) Qu
  rw [av] at h9
  exact h9)
 refine rH 20 54 rfl fun K hK => ?_
 go_simp
 go_at_call 116
 (with_reducible refine HSo.out.mono ?_)
 rintro v wD ⟨vD, rfl, hD8, hbD⟩
 refine y73 ?_
 clear hD8 hK K hHeld dN hS hP
 intro hDr hHeld dN hS hP
 clear hbD hown hT Qu HSo
 obtain ⟨aD, cD, rfl, hDc, hDl⟩ := fP hDr
 clear hDc
 try simp only [pS]
 refine tH (v := ?_) 21 55 rfl (bb ⟨by rfl, ?_⟩) ?_
 case refine_2 => (intro w hSw; go_simp; try with_reducible rfl)
 try simp only [pS]
 have hZX : wD.heap[w.heap.size + 2]? = _ := (hHeld.block _ (by omega)).trans hZV
 refine wpAnyH_ready (rs := [22]) (by kernel_rfl) (by simp) ?_
 refine AllReadyH.cons (o := ⟨none, _, _, _, _, _⟩) rfl (fun K hK => ?_) AllReadyH.nil
 refine y43 ?_
 clear hK K
 intro ah
 refine tH (v := ?_) 23 5 rfl (bb ⟨by rfl, ?_⟩) ?_
 case refine_2 => (intro w hSw; go_simp; try with_reducible rfl)
 try simp only [pS]
 refine tH (v := ?_) 24 6 rfl (bb ⟨by rfl, ?_⟩) ?_
 case refine_2 => (intro w hSw; go_simp; try with_reducible rfl)
 refine y68 ?_
 clear ah
 go_wp2
 refine y16 ?_
 intro hbS hne a1 c1 he1 hd1
 obtain ⟨rfl, rfl⟩ := nI he1
 obtain ⟨a2, c2, he2, hd2⟩ := nN (hne _ _ _ _ _ hP) (fun z hz9 => by
  rcases yt hz9 with rfl | hz9
  ·exact HDD.out.kept hbS
  ·exact (HH.out.kept.dots z hz9).kept hbS)
 obtain ⟨rfl, rfl⟩ := nI he2
 obtain ⟨a3, c3, he3, hd3⟩ := iF (hne _ _ _ _ _ hDr)
 obtain ⟨rfl, rfl⟩ := nI he3
 exact ⟨⟨aS, jP x.ctx e.dot.a e.dot.seq, cS, aP, iY x.K (e, ae, ce), cP, aD, sortD (x.dead ++ e.over), cD⟩, by rw [HO.out, HE.out]; rfl, ⟨hd1, hd2, hd3, hSl, hPl, hDl⟩, Mc x e ae ce HO.out, hbS⟩) : p := h
theorem y28 {p q : Prop} (k : q) (h : PLift q -> p := by
 intro kk
 have hP := eP hP0 hHeld.size
 go_simp
 have hNext := hHeld.trans (hbP.mono hHeld.size)
 refine hK.out _ _ (hNext.mono (by omega)) (fun ah => ?_)
 have hHeld := hNext
 have dN := ah
 clear ah hNext
 replace hS := ownsRow_below hS hbP
 revert hP hHeld dN hS
 exact kk.down) : p := h ⟨k⟩
theorem y25 {p q : Prop} (k : q) (h : PLift q -> p := by
 intro kk
 refine dw (by rfl) 44 76 rfl iD _ 3 underlying44 hD hD0 hD1 (by decide) ?_
 intro v0 X0 hown0 hbel0
 have hown := eP hown0 hHeld.size
 clear hown0
 have hNext := hHeld.trans (hbel0.mono hHeld.size)
 refine hK.out _ _ (hNext.mono (by omega)) (fun ah => ?_)
 have hHeld := hNext
 have dN := ah
 revert v0 X0 hbel0 hown hNext ah hHeld dN
 exact kk.down) : p := h ⟨k⟩
theorem y17 {p q : Prop} (k : q) (h : PLift q -> p := by
 intro kk
 refine aN (by kernel_rfl) (by kernel_rfl) (fun WA hWA => ?_)
 have hbA : Below w2.heap.size w2 WA := by rw [hWA.out]; go_grown
 have hBA : Below W.heap.size W WA := hB.trans (hbA.mono hB.size)
 have pC0 : ∀ i : After WA, i.w.cell? ⟨w.heap.size, 0, none⟩ = some (.slice x.ac x.ctx.length x.cc) := fun i => i.cell (kept hBA C0)
 have pE0 : ∀ i : After WA, i.w.cell? ⟨w.heap.size + 1, 0, none⟩ = some (.int .i64 e.dot.a.dev) := fun i => i.cell (kept hBA E0)
 have pE1 : ∀ i : After WA, i.w.cell? ⟨w.heap.size + 1, 1, none⟩ = some (.int .i64 e.dot.a.inc) := fun i => i.cell (kept hBA E1)
 have pE2 : ∀ i : After WA, i.w.cell? ⟨w.heap.size + 1, 2, none⟩ = some (.int .i64 e.dot.seq) := fun i => i.cell (kept hBA E2)
 have hcA := HC0.kept hBA
 clear hWA
 iterate 5 go_big_quiet_step (fail)
 go_big_quiet_step (exact Calls.after (WP.out _ (hcA.kept (After.h _))))
 iterate 5 go_big_quiet_step (fail)
 refine wpQuiet_nil ?_
 revert WA hbA hBA pC0 pE0 pE1 pE2 hcA
 exact kk.down) : p := h ⟨k⟩
theorem J8 (x:RMIt) (e:Ev) (ae:Option Addr) (ce:Nat) (w:World) (h:RMIn w x) (hz:RMSize x) (hs:EvSmall e) (hd:DotsIn w ae e.over) :
 Calls prog 61 #[Ed x,kV e ae ce] w (Uc x.rm e w):=by
 have HH:=aq h;have HR0:=fun (X:World) (hd:DotsIn X ae e.over)=>zM e ae ce X hs hd;have Dk:=fun (X:World) (h:DotsIn X x.ac x.ctx)=>NK x.ac x.cc x.ctx e.dot X (by have:=hz.ctx;omega) h;have WP:=aq (fun (X:World) (h:DotsIn X x.ac x.ctx)=>Eg x.ac x.cc x.ctx e.dot.a X (by have:=hz.ctx;omega) h);have hkl:(evsOf x.K).length=x.K.length:=aW _;have HKL:=aq hkl;have hrg:=Ce hz.ok e.dot.a;have HSZ:=aq hz;have HDD:=aq hd;obtain ⟨iD,hD,hD0,hD1,hD2⟩:=info_parts Tryz.infoDot;have WN:=aq (fun (X:World) (h:DotsIn X x.ac x.ctx)=>NH x.ac x.cc x.ctx e.dot.a e.dot.seq X (by have:=hz.ctx;omega) h);have Vk:=aq (fun (X:World) (hE:EvsIn X x.aK x.K) (hd:DotsIn X ae e.over)=>show Calls prog 115 #[.slice x.aK x.K.length x.cK,.agg (az e ae ce).toArray] X (Rt (iY x.K (e,ae,ce)) X) from NI x.aK ae x.cK ce x.K e X (by have:=hz.K;omega) h.cK hE hd);have Uh:=aq (fun (X:World) (a:Option Addr) (c:Nat) (hx:(x.dead++e.over).length<=1048576) (hd:DotsIn X a (x.dead++e.over))=>JZ a c (x.dead++e.over) X hx hd);have HO0:GV x.rm e=(dm e && (!iq x.ctx e.dot && (decide (fC x.ctx e.dot.a+1=e.dot.seq) && decide (x.K.length<2048)))):=by unfold GV RMIt.rm;simp only [hkl]
 have HE0:PM x.rm e=if dm e=true then (if iq x.ctx e.dot=true then 0 else if fC x.ctx e.dot.a+1=e.dot.seq then (if x.K.length<2048 then 0 else 9) else 6) else 1:=by unfold PM RMIt.rm;simp only [hkl]
 clear hkl;go_enter func61,ntmps61;go_upto_region 1 with fail
 refine aI (fun W hW=>?_);have hb0:Below w.heap.size w W:=by rw [hW.out];go_grown
 have hR:W.rangeAt (w.heap.size+1) 0 (az e ae ce):=by
  rw [hW.out];have h9:=ai (dU e ae ce (w.alloc (.cells #[.slice x.ac x.ctx.length x.cc,.slice x.aK x.K.length x.cK,.slice x.ad x.dead.length x.cd] 46)) 82) ((bh _ _).alloc (ar _) (.cells #[.slice none 0 0,.slice none 0 0,.slice none 0 0] 46));rwa [show (w.alloc (.cells #[.slice x.ac x.ctx.length x.cc,.slice x.aK x.K.length x.cK,.slice x.ad x.dead.length x.cd] 46)).heap.size=w.heap.size+1 by simp] at h9
 have C0:W.cell? ⟨w.heap.size,0,none⟩=some (.slice x.ac x.ctx.length x.cc):=by rw [hW.out];go_simp
 have C1:W.cell? ⟨w.heap.size,1,none⟩=some (.slice x.aK x.K.length x.cK):=by rw [hW.out];go_simp
 have C2:W.cell? ⟨w.heap.size,2,none⟩=some (.slice x.ad x.dead.length x.cd):=by rw [hW.out];go_simp
 obtain ⟨CZ,hZ,hZs⟩:∃ C:Array Value,W.heap[w.heap.size+2]?=some (.cells C 46 (0,0))/\C.size=3:=by
  rw [hW.out];refine ⟨#[.slice none 0 0,.slice none 0 0,.slice none 0 0],?_,rfl⟩;have h9:=aY ((w.alloc (.cells #[.slice x.ac x.ctx.length x.cc,.slice x.aK x.K.length x.cK,.slice x.ad x.dead.length x.cd] 46)).alloc (.cells (az e ae ce).toArray 82)) (.cells #[.slice none 0 0,.slice none 0 0,.slice none 0 0] 46);rwa [show ((w.alloc (.cells #[.slice x.ac x.ctx.length x.cc,.slice x.aK x.K.length x.cK,.slice x.ad x.dead.length x.cd] 46)).alloc (.cells (az e ae ce).toArray 82)).heap.size=w.heap.size+2 by simp] at h9
 have E0:=hR 0 _ rfl;have E1:=hR 1 _ rfl;have E2:=hR 2 _ rfl;have E18:=hR 18 _ rfl;simp only [aw] at E0 E1 E2 E18;have h0:=h.keep hb0;have hd0:=hd.kept hb0;have HC0:=h0.ctx;clear hW h hd hs hz
 cases hev:dm e with
 | false =>
   rw [hev] at HR0 HO0 HE0;have HR:=aq HR0;have HO:=aq HO0;have HE:=aq HE0;rw [if_neg (by decide)] at HE;rw [Bool.false_and] at HO;clear HR0 HO0 HE0 hev Dk;go_upto_region 2 with (first
    | ((with_reducible refine bf _ (w.heap.size+1) e ae ce hR ?_ rfl ?_);exact rfl)
    | (go_at_call 111;(with_reducible refine (HR.out _ hd0).mono ?_);rintro v w1 ⟨rfl,hB⟩))
   have c0:=kept hB C0;have c1:=kept hB C1;have c2:=kept hB C2;have hZX:=(hB.block _ (lt_of_block hZ)).trans hZ;have HBX:=aq (hb0.trans (hB.mono hb0.size));clear hB;go_wp2_with (refine wpList_store_row rfl 46 _ _ rfl (w.heap.size+2) #[.slice x.ac x.ctx.length x.cc,.slice x.aK x.K.length x.cK,.slice x.ad x.dead.length x.cd] rfl rfl 46 CZ hZX (by kernel_rfl) hZs (by kernel_rfl) ?_)
   refine lL 4 5 6 46 46 (w.heap.size+2) #[.slice x.ac x.ctx.length x.cc,.slice x.aK x.K.length x.cK,.slice x.ad x.dead.length x.cd] _ _ _ rfl rfl rfl rfl (setRow_heap _ _ _ _ _ _ hZX) underlying46 rfl (by kernel_rfl) rfl ?_;have hbS:=below_setRow HBX.out (by omega:w.heap.size<=w.heap.size+2) #[.slice x.ac x.ctx.length x.cc,.slice x.aK x.K.length x.cK,.slice x.ad x.dead.length x.cd];exact ⟨x,by rw [HO.out,HE.out];rfl,HH.out.keep hbS,by unfold rW;rw [HO.out,if_neg (by decide)],hbS⟩
 | true =>
   have HEV:=aq hev;rw [hev] at HR0 HO0 HE0;have HR:=aq HR0;rw [if_pos rfl] at HE0;rw [Bool.true_and] at HO0;clear HR0 hev;go_upto_region 3 with (first
    | ((with_reducible refine bf _ (w.heap.size+1) e ae ce hR ?_ rfl ?_);exact rfl)
    | (go_at_call 111;(with_reducible refine (HR.out _ hd0).mono ?_);rintro v w1 ⟨rfl,hB⟩))
   have c0:=kept hB C0;have e0:=kept hB E0;have e1:=kept hB E1;have e2:=kept hB E2;have hc1:=HC0.kept hB
   cases hha:iq x.ctx e.dot with
   | true =>
     rw [hha] at Dk HO0 HE0;have Vp:=aq Dk;have HO:=aq HO0;have HE:=aq HE0;rw [if_pos rfl] at HE;rw [Bool.not_true,Bool.false_and] at HO;clear Dk HO0 HE0 hha;go_upto_region 4 with (go_at_call 112;(with_reducible refine (Vp.out _ hc1).mono ?_);rintro v w2 ⟨rfl,hb2⟩)
     replace hB:=hB.trans (hb2.mono hB.size);clear hb2 c0 e0 e1 e2;have c0:=kept hB C0;have c1:=kept hB C1;have c2:=kept hB C2;have hZX:=(hB.block _ (lt_of_block hZ)).trans hZ;have HBX:=aq (hb0.trans (hB.mono hb0.size));clear hB;go_wp2_with (refine wpList_store_row rfl 46 _ _ rfl (w.heap.size+2) #[.slice x.ac x.ctx.length x.cc,.slice x.aK x.K.length x.cK,.slice x.ad x.dead.length x.cd] rfl rfl 46 CZ hZX (by kernel_rfl) hZs (by kernel_rfl) ?_)
     refine lL 4 5 6 46 46 (w.heap.size+2) #[.slice x.ac x.ctx.length x.cc,.slice x.aK x.K.length x.cK,.slice x.ad x.dead.length x.cd] _ _ _ rfl rfl rfl rfl (setRow_heap _ _ _ _ _ _ hZX) underlying46 rfl (by kernel_rfl) rfl ?_;have hbS:=below_setRow HBX.out (by omega:w.heap.size<=w.heap.size+2) #[.slice x.ac x.ctx.length x.cc,.slice x.aK x.K.length x.cK,.slice x.ad x.dead.length x.cd];exact ⟨x,by rw [HO.out,HE.out];rfl,HH.out.keep hbS,by unfold rW;rw [HO.out,if_neg (by decide)],hbS⟩
   | false =>
     rw [hha] at Dk HO0 HE0;have Vp:=aq Dk;rw [if_neg (by decide)] at HE0;rw [Bool.not_false,Bool.true_and] at HO0;clear Dk hha;go_upto_region 5 with (go_at_call 112;(with_reducible refine (Vp.out _ hc1).mono ?_);rintro v w2 ⟨rfl,hb2⟩)
     replace hB:=hB.trans (hb2.mono hB.size);clear hb2 c0 e0 e1 e2 hc1;obtain ⟨g,hg⟩:∃ g,g=fC x.ctx e.dot.a:=⟨_,rfl⟩;rw [<- hg] at hrg HO0 HE0 WP;have HG:=aq hg;clear hg;have hwr:IntKind.i64.wrap (g+1)=g+1:=IntWalk.i64_in _ (by omega);by_cases hsq:g+1=e.dot.seq
     ·have hnb:(g+1 != e.dot.seq)=false:=by rw [bne_eq_false_iff_eq];exact hsq
      rw [if_pos hsq] at HE0;rw [aR hsq,Bool.true_and] at HO0
      refine y17 ?_
      intro WA hbA hBA pC0 pE0 pE1 pE2 hcA
      rintro _ ⟨i,rfl⟩;have hiA:=i.h;generalize i.w=w3 at hiA ⊢;replace hB:=hB.trans ((below2 hbA hiA).mono hB.size);clear hbA hiA hBA hcA pC0 pE0 pE1 pE2;clear hnb hsq;by_cases hln:x.K.length<2048
      ·rw [if_pos hln] at HE0
       rw [aR hln] at HO0;have HO:=aq HO0;have HE:=aq HE0;clear HO0 HE0;have c1:=kept hB C1;have hdl:decide (2048<=(x.K.length:Int))=false:=aM (by omega);have hdn:decide (2048<=x.K.length)=false:=aM (by omega);go_upto_region 9 with fail
       refine aI (fun V hV=>?_);have hbV:Below w3.heap.size w3 V.drew:=by rw [hV.out];go_grown
       have hBV:Below W.heap.size W V.drew:=hB.trans (hbV.mono hB.size);have vC0:=kept hBV C0;have vC1:=kept hBV C1;have vC2:=kept hBV C2;have vE0:=kept hBV E0;have vE1:=kept hBV E1;have vE2:=kept hBV E2;have WR:=kept hBV E18;have vR:=ai hR hBV;have vd:=HH.out.dead.dcells.kept (hb0.trans (hBV.mono hb0.size));have vo:=hd0.dcells.kept hBV;have vc:=HC0.kept hBV;have vk:=h0.kept.kept hBV;have ve:=hd0.kept hBV;have hlo:w.heap.size+2<V.drew.heap.size:=by have h8:=hBV.size;have h9:=lt_of_block hZ;omega
       have hZV:=(hBV.block _ (lt_of_block hZ)).trans hZ;have HBV:=aq (hb0.trans (hBV.mono hb0.size));have hol:e.over.length<=64:=(fH HEV.out).2.2.1;have KP:x.dead.length<=524288:=HSZ.out.dead;clear hV hbV hBV hB;refine wp_region_noPanic ?_;refine wp_region_held_drew (S:=fun W'=>Below (w.heap.size+2) V.drew W') (by kernel_rfl) (bh _ _) (fun dN=>?_);have hHeld:Below V.drew.heap.size V.drew V.drew:=bh _ _;refine tH (v:=?_) 0 34 rfl (bb ⟨by rfl,?_⟩) ?_
       case refine_2 => exact z7
       try simp only [pS]
       refine tH (v:=?_) 1 35 rfl (bb ⟨by rfl,?_⟩) ?_
       case refine_2 => exact z7
       try simp only [pS]
       refine tH (v:=?_) 2 36 rfl (bb ⟨by rfl,?_⟩) ?_
       case refine_2 => exact z7
       try simp only [pS]
       refine tH (v:=?_) 3 37 rfl (bb ⟨by rfl,?_⟩) ?_
       case refine_2 => exact z7
       try simp only [pS]
       refine tH (v:=?_) 4 38 rfl (bb ⟨by rfl,?_⟩) ?_
       case refine_2 => exact z7
       try simp only [pS]
       refine tH (v:=?_) 5 39 rfl (bb ⟨by rfl,?_⟩) ?_
       case refine_2 => exact z7
       try simp only [pS]
       refine tH (v:=?_) 6 40 rfl (bb ⟨by rfl,?_⟩) ?_
       case refine_2 => exact z7
       try simp only [pS]
       refine tH (v:=?_) 7 41 rfl (bb ⟨by rfl,?_⟩) ?_
       case refine_2 => exact z7
       try simp only [pS]
       refine tH (v:=?_) 9 43 rfl (bb ⟨by rfl,?_⟩) ?_
       case refine_2 => exact z7
       try simp only [pS]
       refine tH (v:=?_) 10 44 rfl (bb ⟨by rfl,?_⟩) ?_
       case refine_2 => exact z7
       try simp only [pS]
       refine tH 11 45 rfl (yieldsIf_load_mid (by rfl) 82 _ rfl (w.heap.size+1) 0 rfl (az e ae ce) _ (fun X h=>PP h (by omega) vR) underlying82 rfl (by kernel_rfl)) ?_;try simp only [pS]
       refine tH (v:=?_) 14 48 rfl (bb ⟨by rfl,?_⟩) ?_
       case refine_2 => exact z7
       try simp only [pS]
       refine tH (v:=?_) 15 49 rfl (bb ⟨by rfl,?_⟩) ?_
       case refine_2 => exact z7
       try simp only [pS]
       refine tH (v:=?_) 17 51 rfl (bb ⟨by rfl,?_⟩) ?_
       case refine_2 => exact z7
       try simp only [pS]
       refine tH (v:=?_) 18 52 rfl (bb ⟨by rfl,?_⟩) ?_
       case refine_2 => exact z7
       try simp only [pS]
       refine wpAnyH_ready (rs:=[8,13]) (by kernel_rfl) (by simp) ?_;refine AllReadyH.cons (o:=⟨some 42,_,_,_,_,_⟩) rfl (fun K hK=>?_) (AllReadyH.cons (o:=⟨some 47,_,_,_,_,_⟩) rfl (fun K hK=>?_) AllReadyH.nil)
       ·skip
        go_simp;go_at_call 114;(with_reducible refine (WN.out _ (vc.kept hHeld)).mono ?_)
        rintro v wS ⟨vS,rfl,hS0,hbS⟩;have hS:=eP hS0 hHeld.size;clear hS0;go_simp;have hNext:=hHeld.trans (hbS.mono hHeld.size);refine hK.out _ _ (hNext.mono (by omega)) (fun ah=>?_);clear hK K hHeld dN;have hHeld:=hNext;have dN:=ah;clear ah hNext;obtain ⟨aS,cS,rfl,hSc,hSl⟩:=fP hS;clear hSc;clear hbS;try simp only [pS]
        refine wpAnyH_ready (rs:=[12,13]) (by kernel_rfl) (by simp) ?_;refine AllReadyH.cons (o:=⟨some 46,_,_,_,_,_⟩) rfl (fun K hK=>?_) (AllReadyH.cons (o:=⟨some 47,_,_,_,_,_⟩) rfl (fun K hK=>?_) AllReadyH.nil)
        ·skip
         go_simp;go_at_call 115;(with_reducible refine (Vk.out _ (vk.kept hHeld) (ve.kept hHeld)).mono ?_)
         rintro v wP ⟨aP,cP,rfl,hP0,_,hPl,hbP⟩
         refine y28 ?_
         clear hP0 hK K hHeld dN hS
         intro hP hHeld dN hS
         clear hbP;try simp only [pS]
         refine rH 13 47 rfl fun K hK=>?_
         refine y25 ?_
         clear hK K hHeld dN
         intro v0 X0 hbel0 hown hNext ah hHeld dN
         clear ah hNext;replace hS:=ownsRow_below hS hbel0;replace hP:=ownsRow_below hP hbel0;clear hbel0
         try simp only [pS]
         refine rH 16 50 rfl fun K hK => ?_
         refine au (by rfl) (.tmp 47) (.tmp 49) 44 rfl V.drew.heap.size 76 iD _ 3 24 underlying44 hD hD0 hD1 hD2 rfl (by decide) _ 0 [] rfl hown x.ad x.dead.length x.cd (aJ x.dead) rfl (by rw [dX]) (vd.kept hHeld) (dB _) (by unfold maxLen; omega) (by omega) hHeld.size ?_
         intro vA XA hownA hgA
         have hownO := hown
         have hown := hownA
         clear hownA
         have hNext := hHeld.grown hgA hHeld.size (fun k hk => (hownO.lt k hk).1)
         refine hK.out _ _ (hNext.mono (by omega)) (fun ah => ?_)
         clear hK K
         have hHeld := hNext
         have dN := ah
         clear ah hNext
         replace hS := jR hS hownO (by decide) hgA
         replace hP := jR hP hownO (by decide) hgA
         clear hgA hownO
         try simp only [pS]
         refine rH 19 53 rfl fun K hK => ?_
         refine au (by rfl) (.tmp 50) (.tmp 52) 44 rfl V.drew.heap.size 76 iD _ 3 24 underlying44 hD hD0 hD1 hD2 rfl (by decide) _ (0 + x.dead.length) ([] ++ aJ x.dead) rfl hown ae e.over.length ce (aJ e.over) rfl (by rw [dX]) (vo.kept hHeld) (dB _) (by unfold maxLen; omega) (by omega) hHeld.size ?_
         intro vA XA hownA hgA
         have hownO := hown
         clear hown
         have hown := hownA
         clear hownA
         have hNext := hHeld.grown hgA hHeld.size (fun k hk => (hownO.lt k hk).1)
         refine hK.out _ _ (hNext.mono (by omega)) (fun ah => ?_)
         clear hK K hHeld dN
         have hHeld := hNext
         have dN := ah
         clear ah hNext
         replace hS := jR hS hownO (by decide) hgA
         replace hP := jR hP hownO (by decide) hgA
         clear hgA hownO
         try simp only [pS]
         obtain ⟨vT, hvT⟩ : ∃ vT, vT = vA := ⟨_, rfl⟩
         rw [<- hvT] at hown
         obtain ⟨aT, cT, hT, Qu⟩ : ∃ a cap, vT = .slice a (x.dead.length + e.over.length) cap /\ DotsIn XA a (x.dead ++ e.over) := by
          exact z73
         rw [hT] at hvT
         subst hvT
         have HSo := aq (show Calls prog 116 #[.slice aT (x.dead.length + e.over.length) cT] XA _ from by
          have h9 := Uh.out XA aT cT (by rw [av]; omega) Qu
          rw [av] at h9
          exact h9)
         refine rH 20 54 rfl fun K hK => ?_
         go_simp
         go_at_call 116
         (with_reducible refine HSo.out.mono ?_)
         rintro v wD ⟨vD, rfl, hD8, hbD⟩
         refine y73 ?_
         clear hD8 hK K hHeld dN hS hP
         intro hDr hHeld dN hS hP
         clear hbD hown hT Qu HSo
         obtain ⟨aD, cD, rfl, hDc, hDl⟩ := fP hDr
         clear hDc
         try simp only [pS]
         refine tH (v := ?_) 21 55 rfl (bb ⟨by rfl, ?_⟩) ?_
         case refine_2 => (intro w hSw; go_simp; try with_reducible rfl)
         try simp only [pS]
         have hZX : wD.heap[w.heap.size + 2]? = _ := (hHeld.block _ (by omega)).trans hZV
         refine wpAnyH_ready (rs := [22]) (by kernel_rfl) (by simp) ?_
         refine AllReadyH.cons (o := ⟨none, _, _, _, _, _⟩) rfl (fun K hK => ?_) AllReadyH.nil
         refine y43 ?_
         clear hK K
         intro ah
         refine tH (v := ?_) 23 5 rfl (bb ⟨by rfl, ?_⟩) ?_
         case refine_2 => (intro w hSw; go_simp; try with_reducible rfl)
         try simp only [pS]
         refine tH (v := ?_) 24 6 rfl (bb ⟨by rfl, ?_⟩) ?_
         case refine_2 => (intro w hSw; go_simp; try with_reducible rfl)
         refine y68 ?_
         clear ah
         go_wp2
         refine y16 ?_
         intro hbS hne a1 c1 he1 hd1
         obtain ⟨rfl, rfl⟩ := nI he1
         obtain ⟨a2, c2, he2, hd2⟩ := nN (hne _ _ _ _ _ hP) (fun z hz9 => by
          rcases yt hz9 with rfl | hz9
          ·exact HDD.out.kept hbS
          ·exact (HH.out.kept.dots z hz9).kept hbS)
         obtain ⟨rfl, rfl⟩ := nI he2
         obtain ⟨a3, c3, he3, hd3⟩ := iF (hne _ _ _ _ _ hDr)
         obtain ⟨rfl, rfl⟩ := nI he3
         exact ⟨⟨aS, jP x.ctx e.dot.a e.dot.seq, cS, aP, iY x.K (e, ae, ce), cP, aD, sortD (x.dead ++ e.over), cD⟩, by rw [HO.out, HE.out]; rfl, ⟨hd1, hd2, hd3, hSl, hPl, hDl⟩, Mc x e ae ce HO.out, hbS⟩
        ·skip
         refine y25 ?_
         clear hK K hHeld dN
         intro v0 X0 hbel0 hown hNext ah hHeld dN
         clear ah hNext;replace hS:=ownsRow_below hS hbel0;clear hbel0;try simp only [pS]
         refine rH 12 46 rfl fun K hK=>?_;go_simp;go_at_call 115;(with_reducible refine (Vk.out _ (vk.kept hHeld) (ve.kept hHeld)).mono ?_)
         rintro v wP ⟨aP,cP,rfl,hP0,_,hPl,hbP⟩
         refine y28 ?_
         clear hP0 hK K hHeld dN hS
         intro hP hHeld dN hS
         replace hown:=ownsRow_below hown hbP;clear hbP
         try simp only [pS]
         refine rH 16 50 rfl fun K hK => ?_
         refine au (by rfl) (.tmp 47) (.tmp 49) 44 rfl V.drew.heap.size 76 iD _ 3 24 underlying44 hD hD0 hD1 hD2 rfl (by decide) _ 0 [] rfl hown x.ad x.dead.length x.cd (aJ x.dead) rfl (by rw [dX]) (vd.kept hHeld) (dB _) (by unfold maxLen; omega) (by omega) hHeld.size ?_
         intro vA XA hownA hgA
         have hownO := hown
         have hown := hownA
         clear hownA
         have hNext := hHeld.grown hgA hHeld.size (fun k hk => (hownO.lt k hk).1)
         refine hK.out _ _ (hNext.mono (by omega)) (fun ah => ?_)
         clear hK K
         have hHeld := hNext
         have dN := ah
         clear ah hNext
         replace hS := jR hS hownO (by decide) hgA
         replace hP := jR hP hownO (by decide) hgA
         clear hgA hownO
         try simp only [pS]
         refine rH 19 53 rfl fun K hK => ?_
         refine au (by rfl) (.tmp 50) (.tmp 52) 44 rfl V.drew.heap.size 76 iD _ 3 24 underlying44 hD hD0 hD1 hD2 rfl (by decide) _ (0 + x.dead.length) ([] ++ aJ x.dead) rfl hown ae e.over.length ce (aJ e.over) rfl (by rw [dX]) (vo.kept hHeld) (dB _) (by unfold maxLen; omega) (by omega) hHeld.size ?_
         intro vA XA hownA hgA
         have hownO := hown
         clear hown
         have hown := hownA
         clear hownA
         have hNext := hHeld.grown hgA hHeld.size (fun k hk => (hownO.lt k hk).1)
         refine hK.out _ _ (hNext.mono (by omega)) (fun ah => ?_)
         clear hK K hHeld dN
         have hHeld := hNext
         have dN := ah
         clear ah hNext
         replace hS := jR hS hownO (by decide) hgA
         replace hP := jR hP hownO (by decide) hgA
         clear hgA hownO
         try simp only [pS]
         obtain ⟨vT, hvT⟩ : ∃ vT, vT = vA := ⟨_, rfl⟩
         rw [<- hvT] at hown
         obtain ⟨aT, cT, hT, Qu⟩ : ∃ a cap, vT = .slice a (x.dead.length + e.over.length) cap /\ DotsIn XA a (x.dead ++ e.over) := by
          exact z73
         rw [hT] at hvT
         subst hvT
         have HSo := aq (show Calls prog 116 #[.slice aT (x.dead.length + e.over.length) cT] XA _ from by
          have h9 := Uh.out XA aT cT (by rw [av]; omega) Qu
          rw [av] at h9
          exact h9)
         refine rH 20 54 rfl fun K hK => ?_
         go_simp
         go_at_call 116
         (with_reducible refine HSo.out.mono ?_)
         rintro v wD ⟨vD, rfl, hD8, hbD⟩
         refine y73 ?_
         clear hD8 hK K hHeld dN hS hP
         intro hDr hHeld dN hS hP
         clear hbD hown hT Qu HSo
         obtain ⟨aD, cD, rfl, hDc, hDl⟩ := fP hDr
         clear hDc
         try simp only [pS]
         refine tH (v := ?_) 21 55 rfl (bb ⟨by rfl, ?_⟩) ?_
         case refine_2 => (intro w hSw; go_simp; try with_reducible rfl)
         try simp only [pS]
         have hZX : wD.heap[w.heap.size + 2]? = _ := (hHeld.block _ (by omega)).trans hZV
         refine wpAnyH_ready (rs := [22]) (by kernel_rfl) (by simp) ?_
         refine AllReadyH.cons (o := ⟨none, _, _, _, _, _⟩) rfl (fun K hK => ?_) AllReadyH.nil
         refine y43 ?_
         clear hK K
         intro ah
         refine tH (v := ?_) 23 5 rfl (bb ⟨by rfl, ?_⟩) ?_
         case refine_2 => (intro w hSw; go_simp; try with_reducible rfl)
         try simp only [pS]
         refine tH (v := ?_) 24 6 rfl (bb ⟨by rfl, ?_⟩) ?_
         case refine_2 => (intro w hSw; go_simp; try with_reducible rfl)
         refine y68 ?_
         clear ah
         go_wp2
         refine y16 ?_
         intro hbS hne a1 c1 he1 hd1
         obtain ⟨rfl, rfl⟩ := nI he1
         obtain ⟨a2, c2, he2, hd2⟩ := nN (hne _ _ _ _ _ hP) (fun z hz9 => by
          rcases yt hz9 with rfl | hz9
          ·exact HDD.out.kept hbS
          ·exact (HH.out.kept.dots z hz9).kept hbS)
         obtain ⟨rfl, rfl⟩ := nI he2
         obtain ⟨a3, c3, he3, hd3⟩ := iF (hne _ _ _ _ _ hDr)
         obtain ⟨rfl, rfl⟩ := nI he3
         exact ⟨⟨aS, jP x.ctx e.dot.a e.dot.seq, cS, aP, iY x.K (e, ae, ce), cP, aD, sortD (x.dead ++ e.over), cD⟩, by rw [HO.out, HE.out]; rfl, ⟨hd1, hd2, hd3, hSl, hPl, hDl⟩, Mc x e ae ce HO.out, hbS⟩
       ·skip
        refine y25 ?_
        clear hK K hHeld dN
        intro v0 X0 hbel0 hown hNext ah hHeld dN
        clear ah hNext;clear hbel0;try simp only [pS]
        refine rH 8 42 rfl fun K hK=>?_;go_simp;go_at_call 114;(with_reducible refine (WN.out _ (vc.kept hHeld)).mono ?_)
        rintro v wS ⟨vS,rfl,hS0,hbS⟩;have hS:=eP hS0 hHeld.size;clear hS0;go_simp;have hNext:=hHeld.trans (hbS.mono hHeld.size);refine hK.out _ _ (hNext.mono (by omega)) (fun ah=>?_);clear hK K hHeld dN;have hHeld:=hNext;have dN:=ah;clear ah hNext;obtain ⟨aS,cS,rfl,hSc,hSl⟩:=fP hS;clear hSc;replace hown:=ownsRow_below hown hbS;clear hbS;try simp only [pS]
        refine rH 12 46 rfl fun K hK=>?_;go_simp;go_at_call 115;(with_reducible refine (Vk.out _ (vk.kept hHeld) (ve.kept hHeld)).mono ?_)
        rintro v wP ⟨aP,cP,rfl,hP0,_,hPl,hbP⟩
        refine y28 ?_
        clear hP0 hK K hHeld dN hS
        intro hP hHeld dN hS
        replace hown:=ownsRow_below hown hbP;clear hbP
        try simp only [pS]
        refine rH 16 50 rfl fun K hK => ?_
        refine au (by rfl) (.tmp 47) (.tmp 49) 44 rfl V.drew.heap.size 76 iD _ 3 24 underlying44 hD hD0 hD1 hD2 rfl (by decide) _ 0 [] rfl hown x.ad x.dead.length x.cd (aJ x.dead) rfl (by rw [dX]) (vd.kept hHeld) (dB _) (by unfold maxLen; omega) (by omega) hHeld.size ?_
        intro vA XA hownA hgA
        have hownO := hown
        have hown := hownA
        clear hownA
        have hNext := hHeld.grown hgA hHeld.size (fun k hk => (hownO.lt k hk).1)
        refine hK.out _ _ (hNext.mono (by omega)) (fun ah => ?_)
        clear hK K
        have hHeld := hNext
        have dN := ah
        clear ah hNext
        replace hS := jR hS hownO (by decide) hgA
        replace hP := jR hP hownO (by decide) hgA
        clear hgA hownO
        try simp only [pS]
        refine rH 19 53 rfl fun K hK => ?_
        refine au (by rfl) (.tmp 50) (.tmp 52) 44 rfl V.drew.heap.size 76 iD _ 3 24 underlying44 hD hD0 hD1 hD2 rfl (by decide) _ (0 + x.dead.length) ([] ++ aJ x.dead) rfl hown ae e.over.length ce (aJ e.over) rfl (by rw [dX]) (vo.kept hHeld) (dB _) (by unfold maxLen; omega) (by omega) hHeld.size ?_
        intro vA XA hownA hgA
        have hownO := hown
        clear hown
        have hown := hownA
        clear hownA
        have hNext := hHeld.grown hgA hHeld.size (fun k hk => (hownO.lt k hk).1)
        refine hK.out _ _ (hNext.mono (by omega)) (fun ah => ?_)
        clear hK K hHeld dN
        have hHeld := hNext
        have dN := ah
        clear ah hNext
        replace hS := jR hS hownO (by decide) hgA
        replace hP := jR hP hownO (by decide) hgA
        clear hgA hownO
        try simp only [pS]
        obtain ⟨vT,hvT⟩:∃ vT,vT=vA:=⟨_,rfl⟩;rw [<- hvT] at hown;obtain ⟨aT,cT,hT,Qu⟩:∃ a cap,vT=.slice a (x.dead.length+e.over.length) cap/\DotsIn XA a (x.dead++e.over):=by
           exact z73
        rw [hT] at hvT;subst hvT;have HSo:=aq (show Calls prog 116 #[.slice aT (x.dead.length+e.over.length) cT] XA _ from by
           have h9:=Uh.out XA aT cT (by rw [av];omega) Qu;rw [av] at h9;exact h9)
        refine rH 20 54 rfl fun K hK=>?_;go_simp;go_at_call 116;(with_reducible refine HSo.out.mono ?_)
        rintro v wD ⟨vD,rfl,hD8,hbD⟩
        refine y73 ?_
        clear hD8 hK K hHeld dN hS hP
        intro hDr hHeld dN hS hP
        clear hbD hown hT Qu HSo;obtain ⟨aD,cD,rfl,hDc,hDl⟩:=fP hDr;clear hDc;try simp only [pS]
        refine tH (v:=?_) 21 55 rfl (bb ⟨by rfl,?_⟩) ?_
        case refine_2 => (intro w hSw; go_simp; try with_reducible rfl)
        try simp only [pS]
        have hZX:wD.heap[w.heap.size+2]?=_:=(hHeld.block _ (by omega)).trans hZV;refine wpAnyH_ready (rs:=[22]) (by kernel_rfl) (by simp) ?_;refine AllReadyH.cons (o:=⟨none,_,_,_,_,_⟩) rfl (fun K hK=>?_) AllReadyH.nil
        refine y43 ?_
        clear hK K
        intro ah
        refine tH (v:=?_) 23 5 rfl (bb ⟨by rfl,?_⟩) ?_
        case refine_2 => (intro w hSw; go_simp; try with_reducible rfl)
        try simp only [pS]
        refine tH (v:=?_) 24 6 rfl (bb ⟨by rfl,?_⟩) ?_
        case refine_2 => (intro w hSw; go_simp; try with_reducible rfl)
        refine y68 ?_
        clear ah
        go_wp2
        refine y16 ?_
        intro hbS hne a1 c1 he1 hd1
        obtain ⟨rfl,rfl⟩:=nI he1;obtain ⟨a2,c2,he2,hd2⟩:=nN (hne _ _ _ _ _ hP) (fun z hz9=>by
           rcases yt hz9 with rfl | hz9
           ·exact HDD.out.kept hbS
           ·exact (HH.out.kept.dots z hz9).kept hbS)
        obtain ⟨rfl,rfl⟩:=nI he2;obtain ⟨a3,c3,he3,hd3⟩:=iF (hne _ _ _ _ _ hDr);obtain ⟨rfl,rfl⟩:=nI he3;exact ⟨⟨aS,jP x.ctx e.dot.a e.dot.seq,cS,aP,iY x.K (e,ae,ce),cP,aD,sortD (x.dead++e.over),cD⟩,by rw [HO.out,HE.out];rfl,⟨hd1,hd2,hd3,hSl,hPl,hDl⟩,Mc x e ae ce HO.out,hbS⟩
      ·rw [if_neg hln] at HE0
       rw [aM hln] at HO0;have HO:=aq HO0;have HE:=aq HE0;clear HO0 HE0;have c1:=kept hB C1;have hdl:decide (2048<=(x.K.length:Int))=true:=aR (by omega);have hdn:decide (2048<=x.K.length)=true:=aR (by omega);go_upto_region 8 with fail
       clear c1
       exact z35
     ·have hnb:(g+1 != e.dot.seq)=true:=by rw [bne_iff_ne];exact hsq
      rw [if_neg hsq] at HE0;rw [aM hsq,Bool.false_and] at HO0;have HO:=aq HO0;have HE:=aq HE0;clear HO0 HE0
      refine y17 ?_
      intro WA hbA hBA pC0 pE0 pE1 pE2 hcA
      rintro _ ⟨i,rfl⟩;have hiA:=i.h;generalize i.w=w3 at hiA ⊢;replace hB:=hB.trans ((below2 hbA hiA).mono hB.size);clear hbA hiA hBA hcA pC0 pE0 pE1 pE2;go_upto_region 6 with fail
      exact z35
end Go.Proofs.YthphepeniaemoaaGreat
