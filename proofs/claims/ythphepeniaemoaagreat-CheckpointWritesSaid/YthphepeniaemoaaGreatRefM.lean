/- The reference's marks and dots: Get, Has, Sort, Set. Conditions: at most 2^30 of them. -/
import Derived.Test.YthphepeniaemoaaGreatSrtK
import Derived.Test.YthphepeniaemoaaGreatVecD
set_option linter.unusedSimpArgs false
set_option linter.unusedVariables false
set_option linter.unnecessarySimpa false
set_option maxHeartbeats 16000000
set_option maxRecDepth 100000
open Go.Proofs.Tryz
namespace Go.Proofs.YthphepeniaemoaaGreat
open Go.RowKit
theorem OD (d:Dot) (l:List Dot) (a:Actor):fC (d :: l) a=if d.a=a then d.seq else fC l a:=by
 unfold fC;rw [List.find?_cons];by_cases h:d.a=a
 ·rw [aR h,if_pos h]
 ·rw [aM h,if_neg h]
/-! ### 17.Get -/
theorem Eg (a:Option Addr) (cap:Nat) (l:List Dot) (x:Actor) (w:World) (hl:l.length<=1073741824) (h:DotsIn w a l) :
 Calls prog 113 #[.slice a l.length cap,fD x] w fun e w'=>e=.returned (.int .i64 (fC l x))/\Below w.heap.size w w':=by
 go_enter func113,ntmps113;go_wp2;have c0:(w.alloc (.cells #[.int .i64 x.dev,.int .i64 x.inc] 74)).cell? ⟨w.heap.size,0,none⟩=some (.int .i64 x.dev):=by go_simp
 have c1:(w.alloc (.cells #[.int .i64 x.dev,.int .i64 x.inc] 74)).cell? ⟨w.heap.size,1,none⟩=some (.int .i64 x.inc):=by go_simp
 have hb0:Below w.heap.size w (w.alloc (.cells #[.int .i64 x.dev,.int .i64 x.inc] 74)):=(bh _ _).alloc (ar _) _;have hz0:w.heap.size<(w.alloc (.cells #[.int .i64 x.dev,.int .i64 x.inc] 74)).heap.size:=by simp
 have h0:=h.kept hb0;generalize (w.alloc (.cells #[.int .i64 x.dev,.int .i64 x.inc] 74))=W0 at *;clear h;go_loopw [5] (fun i wr=>∃ k:Nat,i=.int .i64 k/\k<=l.length/\fC l x=fC (l.drop k) x/\Below W0.heap.size W0 wr) (fun i _=>l.length - (intOf i).toNat)
 case atStart=>exact ⟨0,rfl,Nat.zero_le _,rfl,bh _ _⟩
 case round =>
  obtain ⟨k,rfl,hk,hP0,hbr⟩:=hrel;have HP:=aq hP0;clear hP0;replace c0:=kept hbr c0;replace c1:=kept hbr c1;have HB:=aq (hb0.trans (hbr.mono hb0.size));by_cases hlt:k<l.length
  ·obtain ⟨A,off,rfl,hda⟩:∃ A off,a=some ⟨A,off,none⟩/\DotsAt wr A off l:=by
        rcases h0.kept hbr with h | ⟨A,off,h1,h2⟩
        ·rw [h] at hlt;simp at hlt
        ·exact ⟨A,off,h1,h2⟩
   have e0:=hda.dev k hlt;have e1:=hda.inc k hlt;have e2:=hda.seq k hlt;have HT:Hid (fC (l.drop k) x=if l[k].a=x then l[k].seq else fC (l.drop (k+1)) x):=by unfold Hid;rw [List.drop_eq_getElem_cons hlt,OD]
   have HLT:=aq hlt;have hEq:=fun (W:World)=>uB W 9998 l[k].a x;have hm:=kM;generalize l[k]=d at *;clear hda;by_cases he:d.a=x
   ·rw [aR he] at hEq
    have HE:Hid (fC l x=d.seq):=by unfold Hid;rw [HP.out,HT.out,if_pos he]
    clear he;go_wp2;go_quiet (fail)
    go_wp2;go_ret;exact ⟨by rw [HE.out];rfl,below_drewN HB.out nq⟩
   ·rw [aM he] at hEq
    have HE:Hid (fC l x=fC (l.drop (k+1)) x):=by unfold Hid;rw [HP.out,HT.out,if_neg he]
    clear he;go_wp2;go_quiet (fail)
    go_wp2;go_roundw
    case rel=>exact ⟨k+1,by go_num,HLT.out,HE.out,below_drewN hbr nq⟩
    case measure => exact z65
  ·obtain rfl:k=l.length:=by omega
   have HE:Hid (fC l x=0):=by unfold Hid;rw [HP.out,List.drop_length];rfl
   go_wp2;go_ret;exact ⟨by rw [HE.out];rfl,HB.out⟩
/-! ### 17.Has -/
theorem NK (a:Option Addr) (cap:Nat) (l:List Dot) (d:Dot) (w:World) (hl:l.length<=1073741824) (h:DotsIn w a l) :
 Calls prog 112 #[.slice a l.length cap,bZ d] w fun e w'=>e=.returned (.bool (iq l d))/\Below w.heap.size w w':=by
 have HR0:=fun (X:World)=>pJ d X;have HG:=aq (fun (X:World) (h:DotsIn X a l)=>Eg a cap l d.a X hl h);have HE:Hid (iq l d=(bn d && decide (d.seq<=fC l d.a))):=rfl;generalize iq l d=r at *
 cases hd:bn d with
 | false =>
   rw [hd] at HR0;have HE2:Hid (r=false):=by unfold Hid;rw [HE.out,hd];rfl
   have HR:=aq HR0;clear HR0 hd HE;go_enter func112,ntmps112;go_upto_region 1 with fail
   refine aN (by kernel_rfl) (by kernel_rfl) (fun W hW=>?_);have hbw:Below w.heap.size w W:=by rw [hW.out];go_grown
   have x0:∀ i:After W,i.w.cell? ⟨w.heap.size,0,none⟩=some (.int .i64 d.a.dev):=fun i=>i.cell (by rw [hW.out];go_simp);have x1:∀ i:After W,i.w.cell? ⟨w.heap.size,1,none⟩=some (.int .i64 d.a.inc):=fun i=>i.cell (by rw [hW.out];go_simp);have x2:∀ i:After W,i.w.cell? ⟨w.heap.size,2,none⟩=some (.int .i64 d.seq):=fun i=>i.cell (by rw [hW.out];go_simp);clear hW h;go_big_quiet_step (fail)
   go_big_quiet_step (exact Calls.after (HR.out _))
   iterate 10 go_big_quiet_step (fail)
   refine wpQuiet_nil ?_;rintro _ ⟨i,rfl⟩;have hib:=i.h;generalize i.w=wi at hib ⊢;go_wp2;go_ret;exact ⟨aH HE2.out.symm,below2 hbw hib⟩
 | true =>
   rw [hd] at HR0;have HE2:Hid (r=decide (d.seq<=fC l d.a)):=by unfold Hid;rw [HE.out,hd];rfl
   have HR:=aq HR0;clear HR0 hd HE;go_enter func112,ntmps112;go_upto_region 1 with fail
   refine aN (by kernel_rfl) (by kernel_rfl) (fun W hW=>?_);have hbw:Below w.heap.size w W:=by rw [hW.out];go_grown
   have h1:=h.kept hbw;have x0:∀ i:After W,i.w.cell? ⟨w.heap.size,0,none⟩=some (.int .i64 d.a.dev):=fun i=>i.cell (by rw [hW.out];go_simp);have x1:∀ i:After W,i.w.cell? ⟨w.heap.size,1,none⟩=some (.int .i64 d.a.inc):=fun i=>i.cell (by rw [hW.out];go_simp);have x2:∀ i:After W,i.w.cell? ⟨w.heap.size,2,none⟩=some (.int .i64 d.seq):=fun i=>i.cell (by rw [hW.out];go_simp);clear hW h;go_big_quiet_step (fail)
   go_big_quiet_step (exact Calls.after (HR.out _))
   iterate 4 go_big_quiet_step (fail)
   go_big_quiet_step (exact Calls.after (HG.out _ (h1.kept (After.h _))))
   iterate 5 go_big_quiet_step (fail)
   refine wpQuiet_nil ?_;rintro _ ⟨i,rfl⟩;have hib:=i.h;generalize i.w=wi at hib ⊢;go_wp2;go_ret;exact ⟨aH HE2.out.symm,below2 hbw hib⟩
/-! ### 16.Has -/
theorem qY:∀ (l:List Dot) (k:Nat),(aJ l).take (k * 3)=aJ (l.take k)
 | l,0=>by simp [aJ]
 | [],k+1=>by simp [aJ]
 | g :: l,k+1=>by
   rw [show (k+1) * 3=k * 3+3 by omega,List.take_succ_cons];show (aJ (g :: l)).take _=aJ (g :: l.take k);rw [show aJ (g :: l)=[.int .i64 g.a.dev,.int .i64 g.a.inc,.int .i64 g.seq]++aJ l from rfl,show aJ (g :: l.take k)=[.int .i64 g.a.dev,.int .i64 g.a.inc,.int .i64 g.seq]++aJ (l.take k) from rfl,<- qY l k];simp
theorem qZ:∀ (l:List Dot) (k:Nat),(aJ l).drop (k * 3)=aJ (l.drop k)
 | l,0=>by simp
 | [],k+1=>by simp [aJ]
 | g :: l,k+1=>by
   rw [show (k+1) * 3=k * 3+3 by omega,List.drop_succ_cons,<- qZ l k];rw [show aJ (g :: l)=[.int .i64 g.a.dev,.int .i64 g.a.inc,.int .i64 g.seq]++aJ l from rfl];simp
theorem ui (l m:List Dot):aJ (l++m)=aJ l++aJ m:=by simp [aJ]
theorem xH (d:Dot) (l:List Dot):aJ (d :: l)=[.int .i64 d.a.dev,.int .i64 d.a.inc,.int .i64 d.seq]++aJ l:=rfl
/-- how many are ahead of a dot -/
def fU (l:List Dot) (d:Dot):Nat:=(l.takeWhile fun x=>cu x d).length
theorem LD {l:List Dot} {d:Dot} {k:Nat} (h:k<l.length) (hp:cu l[k] d=true):fU (l.drop k) d=fU (l.drop (k+1)) d+1:=by
 unfold fU
 exact z113
theorem O7 {l:List Dot} {d:Dot} {k:Nat} (h:k<l.length) (hp:cu l[k] d=false):fU (l.drop k) d=0:=by
 unfold fU
 exact z105
theorem BM (d:Dot):∀ (l:List Dot),(∀ x,l[fU l d]?=some x->x≠d)->jF d l=l.take (fU l d)++d :: l.drop (fU l d)
 | [],_=>rfl
 | y :: l,h=>by
   cases hy:cu y d with
   | true =>
     have e:fU (y :: l) d=fU l d+1:=by unfold fU;rw [List.takeWhile_cons];simp [hy]
     rw [e] at h ⊢;unfold jF;rw [if_pos hy,BM d l (fun x hx=>h x (by simpa using hx))];simp
   | false =>
     have e:fU (y :: l) d=0:=by unfold fU;rw [List.takeWhile_cons];simp [hy]
     rw [e] at h ⊢;unfold jF;rw [if_neg (by rw [hy];decide),if_neg (h y rfl)];rfl
theorem ED (d:Dot):∀ (l:List Dot),l[fU l d]?=some d->jF d l=l
 | [],h=>by simp [fU] at h
 | y :: l,h=>by
   cases hy:cu y d with
   | true =>
     have e:fU (y :: l) d=fU l d+1:=by unfold fU;rw [List.takeWhile_cons];simp [hy]
     rw [e] at h;unfold jF;rw [if_pos hy,ED d l (by simpa using h)]
   | false =>
     have e:fU (y :: l) d=0:=by unfold fU;rw [List.takeWhile_cons];simp [hy]
     rw [e] at h;have hyd:y=d:=by simpa using h
     unfold jF;rw [if_neg (by rw [hy];decide),if_pos hyd]
theorem KY {w:World} {a:Option Addr} {l:List Dot} (h:CellsIn w a (aJ l)) {k:Nat} (hk:k<l.length):∃ A off,a=some ⟨A,off,none⟩/\w.cell? ⟨A,off+k * 3,none⟩=some (.int .i64 l[k].a.dev)/\w.cell? ⟨A,off+k * 3+1,none⟩=some (.int .i64 l[k].a.inc)/\w.cell? ⟨A,off+k * 3+2,none⟩=some (.int .i64 l[k].seq):=by
 obtain ⟨g0,g1,g2⟩:=gJ l k hk;rcases h with h | ⟨A,off,rfl,hr⟩
 ·rw [h] at g0;simp at g0
 ·exact ⟨A,off,rfl,hr _ _ g0,hr _ _ g1,hr _ _ g2⟩
theorem ja (w:World) (d:Dot):CellsIn (w.alloc (.cells #[.int .i64 d.a.dev,.int .i64 d.a.inc,.int .i64 d.seq] 76)) (some ⟨w.heap.size,0,none⟩) [.int .i64 d.a.dev,.int .i64 d.a.inc,.int .i64 d.seq]:=by
 refine bd ⟨_,_,rfl,fun j v hv=>?_⟩;rw [aw,World.cell?_alloc_new];simpa using hv
theorem z52 {p : Prop} (h : p := by
 match j, hv with
 | 0, hv => simp only [List.getElem?_cons_zero, Option.some.injEq] at hv; subst hv; exact kept h (kept hBW D0)
 | 1, hv => simp only [List.getElem?_cons_succ, List.getElem?_cons_zero, Option.some.injEq] at hv; subst hv; exact kept h (kept hBW D1)
 | 2, hv => simp only [List.getElem?_cons_succ, List.getElem?_cons_zero, Option.some.injEq] at hv; subst hv; exact kept h (kept hBW D2)
 | j + 3, hv => simp at hv) : p := h
theorem y57 {p q : Prop} (k : q) (h : PLift q -> p := by
 intro kk
 try simp only [pS]
 refine tH 13 58 rfl (bb ⟨by rfl, fun W hSW => iQ _ _ _ _ _ rfl _ (lX W)⟩) ?_
 try simp only [pS]
 refine wpAnyH_ready (rs := [0, 9]) (by kernel_rfl) (by simp) ?_
 exact kk.down) : p := h ⟨k⟩
theorem y52 {p q : Prop} (k : q) (h : PLift q -> p := by
 intro kk
 try simp only [pS]
 refine tH 8 53 rfl (yieldsIf_load_mid (by rfl) 76 _ rfl A (off + k * 3) rfl [.int .i64 d.a.dev, .int .i64 d.a.inc, .int .i64 d.seq] _ (fun X h => hF X h) underlying76 rfl (by kernel_rfl)) ?_
 try simp only [pS]
 exact kk.down) : p := h ⟨k⟩
theorem y32 {p q : Prop} (k : q) (h : PLift q -> p := by
 intro kk
 have pF0 : ∀ i : After WA, i.w.cell? ⟨AO, ofO + q * 3, none⟩ = some (.int .i64 y.a.dev) := fun i => i.cell (kept hBA F0)
 have pF1 : ∀ i : After WA, i.w.cell? ⟨AO, ofO + q * 3 + 1, none⟩ = some (.int .i64 y.a.inc) := fun i => i.cell (kept hBA F1)
 have pF2 : ∀ i : After WA, i.w.cell? ⟨AO, ofO + q * 3 + 2, none⟩ = some (.int .i64 y.seq) := fun i => i.cell (kept hBA F2)
 iterate 15 go_big_quiet_step (fail)
 refine wpQuiet_nil ?_
 revert pF0 pF1 pF2
 exact kk.down) : p := h ⟨k⟩
theorem y26 {p q : Prop} (k : q) (h : PLift q -> p := by
 intro kk
 have l1 : (aJ (o.take q)).length = q * 3 := by rw [dX, List.length_take, Nat.min_eq_left hq]
 have l2 : (aJ (o.drop q)).length = (o.length - q) * 3 := by rw [dX, List.length_drop]
 have hF : ∀ X, Below W.drew.heap.size W.drew X -> X.rangeAt A (off + k * 3) [.int .i64 d.a.dev, .int .i64 d.a.inc, .int .i64 d.seq] := fun X h j v hv => by
  exact z52
 refine y63 ?_
 intro hHeld
 revert l1 l2 hF hHeld
 exact kk.down) : p := h ⟨k⟩
theorem y22 {p q : Prop} (k : q) (h : PLift q -> p := by
 intro kk
 refine aN (by kernel_rfl) (by kernel_rfl) (fun WA hWA => ?_)
 have hbA : Below wp.heap.size wp WA := by rw [hWA.out]; go_grown
 revert WA hWA hbA
 exact kk.down) : p := h ⟨k⟩
theorem y11 {p q : Prop} (k : q) (h : PLift q -> p := by
 intro kk
 have hBA : Below wo.heap.size wo WA := hB.trans (hbA.mono hB.size)
 have pD0 : ∀ i : After WA, i.w.cell? ⟨A, off + k * 3, none⟩ = some (.int .i64 d.a.dev) := fun i => i.cell (kept hBA D0)
 have pD1 : ∀ i : After WA, i.w.cell? ⟨A, off + k * 3 + 1, none⟩ = some (.int .i64 d.a.inc) := fun i => i.cell (kept hBA D1)
 have pD2 : ∀ i : After WA, i.w.cell? ⟨A, off + k * 3 + 2, none⟩ = some (.int .i64 d.seq) := fun i => i.cell (kept hBA D2)
 revert hBA pD0 pD1 pD2
 exact kk.down) : p := h ⟨k⟩
theorem y80 {p q : Prop} (k : q) (h : PLift q -> p := by
 intro kk
 refine aI (fun W hW => ?_)
 have hbW : Below wx.heap.size wx W.drew := by rw [hW.out]; go_grown
 have hBW : Below wo.heap.size wo W.drew := hB.trans (hbW.mono hB.size)
 have oz := VQ.kept hBW
 have hzW := hBW.size
 revert W hW hbW hBW oz hzW
 exact kk.down) : p := h ⟨k⟩
theorem JZ (a:Option Addr) (cap:Nat) (l:List Dot) (w:World) (hl:l.length<=1048576) (h:DotsIn w a l) :
 Calls prog 116 #[.slice a l.length cap] w fun e w'=>∃ v,e=.returned v/\w'.ownsRow w.heap.size 76 3 v (sortD l).length (aJ (sortD l))/\Below w.heap.size w w':=by
 obtain ⟨i0,hi,hz0,hz1,hz2⟩:=info_parts Tryz.infoDot;have HR:=aq (fun (x y:Dot) (X:World)=>yg x y X);go_enter func116,ntmps116;go_wp2;have hown0:(w.alloc (Obj.cells #[] 76)).ownsRow w.heap.size 76 3 (.slice (some ⟨w.heap.size,0,none⟩) 0 0) 0 []:=World.ownsRow_made _ _ _ (ar _) (by decide) rfl;have hbM:Below w.heap.size w (w.alloc (Obj.cells #[] 76)):=(bh _ _).alloc (ar _) _;go_loopw [3,4] (fun u i wr=>∃ (k:Nat) (o:List Dot),i=.int .i64 k/\k<=l.length/\(l.take k).foldl (fun o d=>jF d o) []=o/\wr.ownsRow w.heap.size 76 3 u o.length (aJ o)/\o.length<=k/\Below w.heap.size w wr) (fun _ i _=>l.length - (intOf i).toNat)
 case atStart=>exact ⟨0,[],rfl,Nat.zero_le _,rfl,hown0,Nat.zero_le _,hbM⟩
 case round =>
  obtain ⟨k,o,rfl,hk,hP0,hown,hol,hbw⟩:=hrel;have HP:=aq hP0;clear hP0 hown0 hbM;by_cases hlt:k<l.length
  ·obtain ⟨A,off,rfl,D0,D1,D2⟩:∃ A off,a=some ⟨A,off,none⟩/\wr.cell? ⟨A,off+k * 3,none⟩=some (.int .i64 l[k].a.dev)/\wr.cell? ⟨A,off+k * 3+1,none⟩=some (.int .i64 l[k].a.inc)/\wr.cell? ⟨A,off+k * 3+2,none⟩=some (.int .i64 l[k].seq):=by
        rcases h.kept hbw with h | ⟨A,off,h1,h2⟩
        ·rw [h] at hlt;simp at hlt
        ·exact ⟨A,off,h1,h2.dev k hlt,h2.inc k hlt,h2.seq k hlt⟩
   have HT:Hid ((l.take (k+1)).foldl (fun o d=>jF d o) []=jF l[k] ((l.take k).foldl (fun o d=>jF d o) [])):=by
        unfold Hid;rw [List.take_add_one,List.getElem?_eq_getElem hlt,List.foldl_append];rfl
   have HLT:=aq hlt;have hkl:k<=1048576:=by omega
   generalize l[k]=d at *;obtain ⟨aO,cO,rfl,VQ,hcO⟩:=fP hown;have HOW:=aq hown;have HOL:=aq hol;have XP:o.length<=1048576:=by omega
   have HBo:=aq hbw;have hzo:=hbw.size;obtain ⟨wo,rfl⟩:∃ wo:World,wo=wr:=⟨_,rfl⟩;clear hown hbw hol;go_wp2;go_loopw [5] (fun j wq=>∃ q:Nat,j=.int .i64 q/\q<=o.length/\fU o d=q+fU (o.drop q) d/\Below wo.heap.size wo wq) (fun j _=>o.length - (intOf j).toNat)
   case atStart=>exact ⟨0,rfl,Nat.zero_le _,by simp,bh _ _⟩
   case round =>
        obtain ⟨q,rfl,hq,hA0,hB⟩:=hrel;have HA:=aq hA0;clear hA0;by_cases hqt:q<o.length
        ·obtain ⟨AO,ofO,rfl,F0,F1,F2⟩:=KY VQ hqt
         have HY:=aq (fun (h:cu o[q] d=true)=>LD hqt h);have HN:=aq (fun (h:cu o[q] d=false)=>O7 hqt h);have HG:=aq (List.getElem?_eq_getElem hqt);have HR1:=fun (X:World)=>HR.out o[q] d X;have hEq:=fun (W:World)=>WE W 9997 o[q] d;have hm:=Kr;have HQT:=aq hqt;have hqb:((q:Int) == (o.length:Int))=false:=beq_eq_false_iff_ne.2 (by omega);generalize o[q]=y at *
         cases hly:cu y d with
         | true =>
           rw [hly] at HR1;have HA2:Hid (fU o d=q+1+fU (o.drop (q+1)) d):=by unfold Hid;rw [HA.out,HY.out hly];omega
           clear hly;go_upto_region 6 with fail
           refine aN (by kernel_rfl) (by kernel_rfl) (fun WA hWA=>?_);have hbA:Below wr.heap.size wr WA:=by rw [hWA.out];go_grown
           have hBA:Below wo.heap.size wo WA:=hB.trans (hbA.mono hB.size);have pD0:∀ i:After WA,i.w.cell? ⟨A,off+k * 3,none⟩=some (.int .i64 d.a.dev):=fun i=>i.cell (kept hBA D0);have pD1:∀ i:After WA,i.w.cell? ⟨A,off+k * 3+1,none⟩=some (.int .i64 d.a.inc):=fun i=>i.cell (kept hBA D1);have pD2:∀ i:After WA,i.w.cell? ⟨A,off+k * 3+2,none⟩=some (.int .i64 d.seq):=fun i=>i.cell (kept hBA D2);have pF0:∀ i:After WA,i.w.cell? ⟨AO,ofO+q * 3,none⟩=some (.int .i64 y.a.dev):=fun i=>i.cell (kept hBA F0);have pF1:∀ i:After WA,i.w.cell? ⟨AO,ofO+q * 3+1,none⟩=some (.int .i64 y.a.inc):=fun i=>i.cell (kept hBA F1);have pF2:∀ i:After WA,i.w.cell? ⟨AO,ofO+q * 3+2,none⟩=some (.int .i64 y.seq):=fun i=>i.cell (kept hBA F2);clear hWA hBA;iterate 13 go_big_quiet_step (fail)
           go_big_quiet_step (exact Calls.after (HR1 _))
           go_big_quiet_step (fail)
           refine wpQuiet_nil ?_;rintro _ ⟨i,rfl⟩;have hiA:=i.h;generalize i.w=wp at hiA ⊢;have hbY:Below wr.heap.size wr wp:=below2 hbA hiA;replace hB:=hB.trans (hbY.mono hB.size);clear hbA hiA hbY pD0 pD1 pD2 pF0 pF1 pF2;have HB2:=aq hB;clear hB;go_wp2;go_roundw
           case rel=>exact ⟨q+1,by go_num,HQT.out,HA2.out,HB2.out⟩
           case measure=>have:=HQT.out;simp [intOf] <;> omega
         | false =>
           rw [hly] at HR1;have HA2:Hid (fU o d=q):=by unfold Hid;rw [HA.out,HN.out hly];omega
           clear hly;go_upto_region 6 with fail
           refine aN (by kernel_rfl) (by kernel_rfl) (fun WA hWA=>?_);have hbA:Below wr.heap.size wr WA:=by rw [hWA.out];go_grown
           have hBA:Below wo.heap.size wo WA:=hB.trans (hbA.mono hB.size);have pD0:∀ i:After WA,i.w.cell? ⟨A,off+k * 3,none⟩=some (.int .i64 d.a.dev):=fun i=>i.cell (kept hBA D0);have pD1:∀ i:After WA,i.w.cell? ⟨A,off+k * 3+1,none⟩=some (.int .i64 d.a.inc):=fun i=>i.cell (kept hBA D1);have pD2:∀ i:After WA,i.w.cell? ⟨A,off+k * 3+2,none⟩=some (.int .i64 d.seq):=fun i=>i.cell (kept hBA D2);have pF0:∀ i:After WA,i.w.cell? ⟨AO,ofO+q * 3,none⟩=some (.int .i64 y.a.dev):=fun i=>i.cell (kept hBA F0);have pF1:∀ i:After WA,i.w.cell? ⟨AO,ofO+q * 3+1,none⟩=some (.int .i64 y.a.inc):=fun i=>i.cell (kept hBA F1);have pF2:∀ i:After WA,i.w.cell? ⟨AO,ofO+q * 3+2,none⟩=some (.int .i64 y.seq):=fun i=>i.cell (kept hBA F2);clear hWA hBA;iterate 13 go_big_quiet_step (fail)
           go_big_quiet_step (exact Calls.after (HR1 _))
           go_big_quiet_step (fail)
           refine wpQuiet_nil ?_;rintro _ ⟨i,rfl⟩;have hiA:=i.h;generalize i.w=wp at hiA ⊢;have hbY:Below wr.heap.size wr wp:=below2 hbA hiA;replace hB:=hB.trans (hbY.mono hB.size);clear hbA hiA hbY pD0 pD1 pD2 pF0 pF1 pF2;by_cases he:y=d
           ·rw [aR he] at hEq
            have HI:Hid (jF d o=o):=ED d o (by rw [HA2.out,HG.out,he]);clear he;go_upto_region 8 with fail
            refine y22 ?_
            intro WA hWA hbA
            refine y11 ?_
            intro hBA pD0 pD1 pD2
            refine y32 ?_
            clear hWA hBA
            intro pF0 pF1 pF2
            rintro _ ⟨i,rfl⟩;have hiA:=i.h;generalize i.w=wx at hiA ⊢;have hbY:Below wp.heap.size wp wx:=below2 hbA hiA;replace hB:=hB.trans (hbY.mono hB.size);clear hbA hiA hbY pD0 pD1 pD2 pF0 pF1 pF2;have HZ:=aq (ba (ownsRow_below HOW.out hB) (HBo.out.trans (hB.mono hzo)));clear hB;go_wp2;go_roundw
            case rel=>exact ⟨k+1,o,by go_num,HLT.out,by rw [HT.out,HP.out,HI.out],HZ.out.1,Nat.le_succ_of_le HOL.out,HZ.out.2⟩
            case measure => exact z65
           ·rw [aM he] at hEq
            have HI:Hid (jF d o=o.take q++d :: o.drop q):=by
             have:=BM d o (fun x hx=>by rw [HA2.out,HG.out] at hx;cases hx;exact he);rwa [HA2.out] at this
            clear he;go_upto_region 8 with fail
            refine y22 ?_
            intro WA hWA hbA
            refine y11 ?_
            intro hBA pD0 pD1 pD2
            refine y32 ?_
            clear hWA hBA
            intro pF0 pF1 pF2
            rintro _ ⟨i,rfl⟩;have hiA:=i.h;generalize i.w=wx at hiA ⊢;have hbY:Below wp.heap.size wp wx:=below2 hbA hiA;replace hB:=hB.trans (hbY.mono hB.size);clear hbA hiA hbY pD0 pD1 pD2 pF0 pF1 pF2;go_upto_region 9 with fail
            refine y80 ?_
            intro W hW hbW hBW oz hzW
            have hcut:∀ X,(Instr.sliceAt 44 (.slice (some ⟨AO,ofO,none⟩) o.length cO) none (some (.int .i64 (q:Nat))) none).run prog X=.ok (.slice (some ⟨AO,ofO,none⟩) q cO) X:=fun X=>nZ X _ _ i0 (some ⟨AO,ofO,none⟩) o.length cO .i64 q underlying44 hi (by omega);have lX:∀ X,(Instr.sliceAt 44 (.slice (some ⟨AO,ofO,none⟩) o.length cO) (some (.int .i64 (q:Nat))) none none).run prog X=.ok (.slice (oV (some ⟨AO,ofO,none⟩) cO q 3) (o.length - q) (cO - q)) X:=fun X=>nY X _ _ i0 (some ⟨AO,ofO,none⟩) o.length cO .i64 q 3 underlying44 hi hz1 (by omega);have hR1:∀ X,Below W.drew.heap.size W.drew X->CellsIn X (some ⟨AO,ofO,none⟩) (aJ (o.take q)):=fun X h=>by rw [<- qY];exact (oz.kept h).take _
            have hR2:∀ X,Below W.drew.heap.size W.drew X->CellsIn X (oV (some ⟨AO,ofO,none⟩) cO q 3) (aJ (o.drop q)):=fun X h=>by rw [<- qZ];exact (oz.kept h).cut (dX o) hcO q
            refine y26 ?_
            clear hW
            intro l1 l2 hF hHeld
            refine tH (v:=?_) 1 46 rfl (bb ⟨by rfl,?_⟩) ?_
            case refine_2 => (intro w hSw; go_simp; try with_reducible rfl)
            try simp only [pS]
            refine tH (v:=?_) 2 47 rfl (bb ⟨by rfl,?_⟩) ?_
            case refine_2 => (intro w hSw; go_simp; try with_reducible rfl)
            try simp only [pS]
            refine tH 3 48 rfl (bb ⟨by rfl,fun W hSW=>iQ _ _ _ _ _ rfl _ (hcut W)⟩) ?_;try simp only [pS]
            refine tH (v:=?_) 5 50 rfl (bb ⟨by rfl,?_⟩) ?_
            case refine_2 => (intro w hSw; go_simp; try with_reducible rfl)
            try simp only [pS]
            refine tH (v:=?_) 6 51 rfl (bb ⟨by rfl,?_⟩) ?_
            case refine_2 => (intro w hSw; go_simp; try with_reducible rfl)
            try simp only [pS]
            refine tH (v:=?_) 7 52 rfl (bb ⟨by rfl,?_⟩) ?_
            case refine_2 => (intro w hSw; go_simp; try with_reducible rfl)
            refine y52 ?_
            refine tH (v:=?_) 11 56 rfl (bb ⟨by rfl,?_⟩) ?_
            case refine_2 => (intro w hSw; go_simp; try with_reducible rfl)
            try simp only [pS]
            refine tH (v:=?_) 12 57 rfl (bb ⟨by rfl,?_⟩) ?_
            case refine_2 => (intro w hSw; go_simp; try with_reducible rfl)
            refine y57 ?_
            refine AllReadyH.cons (o:=⟨some 45,_,_,_,_,_⟩) rfl (fun K hK=>?_) (AllReadyH.cons (o:=⟨some 54,_,_,_,_,_⟩) rfl (fun K hK=>?_) AllReadyH.nil);focus
             refine dw (by rfl) 44 76 rfl i0 _ 3 underlying44 hi hz0 hz1 (by decide) ?_;intro v0 X0 hown0 hbel0;refine hK.out _ _ ?_ (fun ah=>?_)
             ·exact z72
             clear hK K hHeld;have hHeld:=ah;clear ah;try simp only [pS]
             refine wpAnyH_ready (rs:=[4,9]) (by kernel_rfl) (by simp) ?_;refine AllReadyH.cons (o:=⟨some 49,_,_,_,_,_⟩) rfl (fun K hK=>?_) (AllReadyH.cons (o:=⟨some 54,_,_,_,_,_⟩) rfl (fun K hK=>?_) AllReadyH.nil);focus
                refine au (by rfl) (.tmp 45) (.tmp 48) 44 rfl W.drew.heap.size 76 i0 _ 3 24 underlying44 hi hz0 hz1 hz2 rfl (by decide) _ 0 _ rfl hown0 (some ⟨AO,ofO,none⟩) q cO (aJ (o.take q)) rfl l1 (hR1 _ hHeld) (dB _) (by first | omega | (unfold maxLen;omega)) (by first | omega | (unfold maxLen;omega)) hHeld.size ?_;intro v1 X1 hown1 hg1;refine hK.out _ _ ?_ (fun ah=>?_)
                ·exact z36
                clear hK K hHeld;have hHeld:=ah;clear ah;try simp only [pS]
                refine rH 9 54 rfl fun K hK=>?_;refine bz (by rfl) 44 76 _ rfl #[.int .i64 d.a.dev,.int .i64 d.a.inc,.int .i64 d.seq] 3 rfl rfl (by decide) (by decide) underlying44 (by kernel_rfl) (by kernel_rfl) ?_;refine hK.out _ _ ?_ (fun ah=>?_)
                ·exact z71
                clear hK K hHeld;have hHeld:=ah;clear ah;try simp only [pS]
                have hN:=(fun X=>ja X d) X1;refine rH 10 55 rfl fun K hK=>?_;refine au (by rfl) (.tmp 49) (.tmp 54) 44 rfl W.drew.heap.size 76 i0 _ 3 24 underlying44 hi hz0 hz1 hz2 rfl (by decide) _ (0+q) _ rfl (hown1.alloc _) (some ⟨X1.heap.size,0,none⟩) 1 1 [.int .i64 d.a.dev,.int .i64 d.a.inc,.int .i64 d.seq] rfl rfl hN (dB [d]) (by first | omega | (unfold maxLen;omega)) (by first | omega | (unfold maxLen;omega)) hHeld.size ?_;intro v2 X2 hown2 hg2;refine hK.out _ _ ?_ (fun ah=>?_)
                ·exact z37
                clear hK K hHeld;have hHeld:=ah;clear ah;try simp only [pS]
             rotate_left 1;focus
                refine bz (by rfl) 44 76 _ rfl #[.int .i64 d.a.dev,.int .i64 d.a.inc,.int .i64 d.seq] 3 rfl rfl (by decide) (by decide) underlying44 (by kernel_rfl) (by kernel_rfl) ?_;refine hK.out _ _ ?_ (fun ah=>?_)
                ·exact z71
                clear hK K hHeld;have hHeld:=ah;clear ah;try simp only [pS]
                have hN:=(fun X=>ja X d) X0;refine rH 4 49 rfl fun K hK=>?_;refine au (by rfl) (.tmp 45) (.tmp 48) 44 rfl W.drew.heap.size 76 i0 _ 3 24 underlying44 hi hz0 hz1 hz2 rfl (by decide) _ 0 _ rfl (hown0.alloc _) (some ⟨AO,ofO,none⟩) q cO (aJ (o.take q)) rfl l1 (hR1 _ hHeld) (dB _) (by first | omega | (unfold maxLen;omega)) (by first | omega | (unfold maxLen;omega)) hHeld.size ?_;intro v1 X1 hown1 hg1;refine hK.out _ _ ?_ (fun ah=>?_)
                ·exact z36
                clear hK K hHeld;have hHeld:=ah;clear ah;try simp only [pS]
                replace hN:=hN.grown hg1 (fun q hq e=>by have:=(hown0.lt _ e).2;simp only [Option.some.injEq] at hq;subst hq;simp only at this;omega);refine rH 10 55 rfl fun K hK=>?_;refine au (by rfl) (.tmp 49) (.tmp 54) 44 rfl W.drew.heap.size 76 i0 _ 3 24 underlying44 hi hz0 hz1 hz2 rfl (by decide) _ (0+q) _ rfl hown1 (some ⟨X0.heap.size,0,none⟩) 1 1 [.int .i64 d.a.dev,.int .i64 d.a.inc,.int .i64 d.seq] rfl rfl hN (dB [d]) (by first | omega | (unfold maxLen;omega)) (by first | omega | (unfold maxLen;omega)) hHeld.size ?_;intro v2 X2 hown2 hg2;refine hK.out _ _ ?_ (fun ah=>?_)
                ·exact z37
                clear hK K hHeld;have hHeld:=ah;clear ah;try simp only [pS]
            rotate_left 2;focus
             refine bz (by rfl) 44 76 _ rfl #[.int .i64 d.a.dev,.int .i64 d.a.inc,.int .i64 d.seq] 3 rfl rfl (by decide) (by decide) underlying44 (by kernel_rfl) (by kernel_rfl) ?_;refine hK.out _ _ ?_ (fun ah=>?_)
             ·exact z71
             clear hK K hHeld;have hHeld:=ah;clear ah;try simp only [pS]
             have hN:=(fun X=>ja X d) W.drew;refine rH 0 45 rfl fun K hK=>?_;refine dw (by rfl) 44 76 rfl i0 _ 3 underlying44 hi hz0 hz1 (by decide) ?_;intro v0 X0 hown0 hbel0;refine hK.out _ _ ?_ (fun ah=>?_)
             ·exact z72
             clear hK K hHeld;have hHeld:=ah;clear ah;try simp only [pS]
             replace hN:=hN.kept hbel0;have tu:=hown0;replace hown0:=own_base hown0 (b2:=W.drew.heap.size) (by first | exact ar _ | simp);refine rH 4 49 rfl fun K hK=>?_;refine au (by rfl) (.tmp 45) (.tmp 48) 44 rfl W.drew.heap.size 76 i0 _ 3 24 underlying44 hi hz0 hz1 hz2 rfl (by decide) _ 0 _ rfl hown0 (some ⟨AO,ofO,none⟩) q cO (aJ (o.take q)) rfl l1 (hR1 _ hHeld) (dB _) (by first | omega | (unfold maxLen;omega)) (by first | omega | (unfold maxLen;omega)) hHeld.size ?_;intro v1 X1 hown1 hg1;refine hK.out _ _ ?_ (fun ah=>?_)
             ·exact z36
             clear hK K hHeld;have hHeld:=ah;clear ah;try simp only [pS]
             replace hN:=hN.grown hg1 (fun q hq e=>by have:=(tu.lt _ e).1;simp only [Option.some.injEq] at hq;subst hq;simp at this;omega);refine rH 10 55 rfl fun K hK=>?_;refine au (by rfl) (.tmp 49) (.tmp 54) 44 rfl W.drew.heap.size 76 i0 _ 3 24 underlying44 hi hz0 hz1 hz2 rfl (by decide) _ (0+q) _ rfl hown1 (some ⟨W.drew.heap.size,0,none⟩) 1 1 [.int .i64 d.a.dev,.int .i64 d.a.inc,.int .i64 d.seq] rfl rfl hN (dB [d]) (by first | omega | (unfold maxLen;omega)) (by first | omega | (unfold maxLen;omega)) hHeld.size ?_;intro v2 X2 hown2 hg2;refine hK.out _ _ ?_ (fun ah=>?_)
             ·exact z37
             clear hK K hHeld;have hHeld:=ah;clear ah;try simp only [pS]
            all_goals
             refine rH 14 59 rfl fun K hK=>?_;refine au (by rfl) (.tmp 55) (.tmp 58) 44 rfl W.drew.heap.size 76 i0 _ 3 24 underlying44 hi hz0 hz1 hz2 rfl (by decide) _ (0+q+1) _ rfl hown2 (oV (some ⟨AO,ofO,none⟩) cO q 3) (o.length - q) (cO - q) (aJ (o.drop q)) rfl l2 (hR2 _ hHeld) (dB _) (by first | omega | (unfold maxLen;omega)) (by first | omega | (unfold maxLen;omega)) hHeld.size ?_;intro v3 X3 hown3 hg3;refine hK.out _ _ ?_ (fun ah=>?_)
             ·exact z87
             clear hK K hHeld;have hHeld:=ah;clear ah;try simp only [pS]
             refine tH (v:=?_) 15 3 rfl (bb ⟨by rfl,?_⟩) ?_
             case refine_2 => (intro w hSw; go_simp; try with_reducible rfl)
             try simp only [pS]
             refine wpAnyH_done (by kernel_rfl) ?_ _;refine NoPanic.normal ?_;have e1:[]++aJ (o.take q)++[.int .i64 d.a.dev,.int .i64 d.a.inc,.int .i64 d.seq]++aJ (o.drop q)=aJ (jF d o):=by rw [HI.out,ui,xH];simp [List.append_assoc]
             have e2:0+q+1+(o.length - q)=(jF d o).length:=by rw [HI.out,av,List.length_cons,List.length_take,List.length_drop,Nat.min_eq_left hq];omega
             rw [e1,e2] at hown3;have e3:(jF d o).length=o.length+1:=by rw [<- e2];omega
             have HZ:=aq (ba (eP hown3 (Nat.le_trans hzo hzW)) (HBo.out.trans ((hBW.trans (hHeld.mono hzW)).mono hzo)));have HL2:=aq e3;clear e1 e2 e3 hR1 hR2 l1 l2 hF hcut lX hown3 hHeld oz hBW hbW;go_wp2;go_roundw
             case rel=>exact ⟨k+1,_,by go_num,HLT.out,by rw [HT.out,HP.out],HZ.out.1,by rw [HL2.out];have:=HOL.out;omega,HZ.out.2⟩
             case measure => exact z65
        ·have HI:Hid (jF d o=o.take q++d :: o.drop q):=by
          have e:fU o d=q:=by rw [HA.out,List.drop_eq_nil_of_le (by omega)];rfl
          have:=BM d o (fun x hx=>by rw [e,List.getElem?_eq_none (by omega)] at hx;cases hx);rwa [e] at this
         obtain hqe:q=o.length:=by omega
         have hqd:decide (q<o.length)=false:=aM hqt;have hqi:decide ((q:Int)<(o.length:Int))=false:=aM (by omega);have hqb:((q:Int) == (o.length:Int))=true:=beq_iff_eq.2 (by omega);clear hqe;go_upto_region 6 with fail
         refine aN (by kernel_rfl) (by kernel_rfl) (fun WA hWA=>?_);have hbA:Below wr.heap.size wr WA:=by rw [hWA.out];go_grown
         refine y11 ?_
         intro hBA pD0 pD1 pD2
         clear hWA hBA
         iterate 15 go_big_quiet_step (fail)
         refine wpQuiet_nil ?_;rintro _ ⟨i,rfl⟩;have hiA:=i.h;generalize i.w=wp at hiA ⊢;have hbY:Below wr.heap.size wr wp:=below2 hbA hiA;replace hB:=hB.trans (hbY.mono hB.size);clear hbA hiA hbY pD0 pD1 pD2;go_upto_region 8 with fail
         refine y22 ?_
         intro WA hWA hbA
         refine y11 ?_
         intro hBA pD0 pD1 pD2
         clear hWA hBA
         iterate 15 go_big_quiet_step (fail)
         refine wpQuiet_nil ?_;rintro _ ⟨i,rfl⟩;have hiA:=i.h;generalize i.w=wx at hiA ⊢;have hbY:Below wp.heap.size wp wx:=below2 hbA hiA;replace hB:=hB.trans (hbY.mono hB.size);clear hbA hiA hbY pD0 pD1 pD2;go_upto_region 9 with fail
         refine y80 ?_
         intro W hW hbW hBW oz hzW
         have hcut:∀ X,(Instr.sliceAt 44 (.slice aO o.length cO) none (some (.int .i64 (q:Nat))) none).run prog X=.ok (.slice aO q cO) X:=fun X=>nZ X _ _ i0 aO o.length cO .i64 q underlying44 hi (by omega);have lX:∀ X,(Instr.sliceAt 44 (.slice aO o.length cO) (some (.int .i64 (q:Nat))) none none).run prog X=.ok (.slice (oV aO cO q 3) (o.length - q) (cO - q)) X:=fun X=>nY X _ _ i0 aO o.length cO .i64 q 3 underlying44 hi hz1 (by omega);have hR1:∀ X,Below W.drew.heap.size W.drew X->CellsIn X aO (aJ (o.take q)):=fun X h=>by rw [<- qY];exact (oz.kept h).take _
         have hR2:∀ X,Below W.drew.heap.size W.drew X->CellsIn X (oV aO cO q 3) (aJ (o.drop q)):=fun X h=>by rw [<- qZ];exact (oz.kept h).cut (dX o) hcO q
         refine y26 ?_
         clear hW
         intro l1 l2 hF hHeld
         refine tH (v:=?_) 1 46 rfl (bb ⟨by rfl,?_⟩) ?_
         case refine_2 => (intro w hSw; go_simp; try with_reducible rfl)
         try simp only [pS]
         refine tH (v:=?_) 2 47 rfl (bb ⟨by rfl,?_⟩) ?_
         case refine_2 => (intro w hSw; go_simp; try with_reducible rfl)
         try simp only [pS]
         refine tH 3 48 rfl (bb ⟨by rfl,fun W hSW=>iQ _ _ _ _ _ rfl _ (hcut W)⟩) ?_;try simp only [pS]
         refine tH (v:=?_) 5 50 rfl (bb ⟨by rfl,?_⟩) ?_
         case refine_2 => (intro w hSw; go_simp; try with_reducible rfl)
         try simp only [pS]
         refine tH (v:=?_) 6 51 rfl (bb ⟨by rfl,?_⟩) ?_
         case refine_2 => (intro w hSw; go_simp; try with_reducible rfl)
         try simp only [pS]
         refine tH (v:=?_) 7 52 rfl (bb ⟨by rfl,?_⟩) ?_
         case refine_2 => (intro w hSw; go_simp; try with_reducible rfl)
         refine y52 ?_
         refine tH (v:=?_) 11 56 rfl (bb ⟨by rfl,?_⟩) ?_
         case refine_2 => (intro w hSw; go_simp; try with_reducible rfl)
         try simp only [pS]
         refine tH (v:=?_) 12 57 rfl (bb ⟨by rfl,?_⟩) ?_
         case refine_2 => (intro w hSw; go_simp; try with_reducible rfl)
         refine y57 ?_
         refine AllReadyH.cons (o:=⟨some 45,_,_,_,_,_⟩) rfl (fun K hK=>?_) (AllReadyH.cons (o:=⟨some 54,_,_,_,_,_⟩) rfl (fun K hK=>?_) AllReadyH.nil);focus
          refine dw (by rfl) 44 76 rfl i0 _ 3 underlying44 hi hz0 hz1 (by decide) ?_;intro v0 X0 hown0 hbel0;refine hK.out _ _ ?_ (fun ah=>?_)
          ·exact z72
          clear hK K hHeld;have hHeld:=ah;clear ah;try simp only [pS]
          refine wpAnyH_ready (rs:=[4,9]) (by kernel_rfl) (by simp) ?_;refine AllReadyH.cons (o:=⟨some 49,_,_,_,_,_⟩) rfl (fun K hK=>?_) (AllReadyH.cons (o:=⟨some 54,_,_,_,_,_⟩) rfl (fun K hK=>?_) AllReadyH.nil);focus
           refine au (by rfl) (.tmp 45) (.tmp 48) 44 rfl W.drew.heap.size 76 i0 _ 3 24 underlying44 hi hz0 hz1 hz2 rfl (by decide) _ 0 _ rfl hown0 aO q cO (aJ (o.take q)) rfl l1 (hR1 _ hHeld) (dB _) (by first | omega | (unfold maxLen;omega)) (by first | omega | (unfold maxLen;omega)) hHeld.size ?_;intro v1 X1 hown1 hg1;refine hK.out _ _ ?_ (fun ah=>?_)
           ·exact z36
           clear hK K hHeld;have hHeld:=ah;clear ah;try simp only [pS]
           refine rH 9 54 rfl fun K hK=>?_;refine bz (by rfl) 44 76 _ rfl #[.int .i64 d.a.dev,.int .i64 d.a.inc,.int .i64 d.seq] 3 rfl rfl (by decide) (by decide) underlying44 (by kernel_rfl) (by kernel_rfl) ?_;refine hK.out _ _ ?_ (fun ah=>?_)
           ·exact z71
           clear hK K hHeld;have hHeld:=ah;clear ah;try simp only [pS]
           have hN:=(fun X=>ja X d) X1;refine rH 10 55 rfl fun K hK=>?_;refine au (by rfl) (.tmp 49) (.tmp 54) 44 rfl W.drew.heap.size 76 i0 _ 3 24 underlying44 hi hz0 hz1 hz2 rfl (by decide) _ (0+q) _ rfl (hown1.alloc _) (some ⟨X1.heap.size,0,none⟩) 1 1 [.int .i64 d.a.dev,.int .i64 d.a.inc,.int .i64 d.seq] rfl rfl hN (dB [d]) (by first | omega | (unfold maxLen;omega)) (by first | omega | (unfold maxLen;omega)) hHeld.size ?_;intro v2 X2 hown2 hg2;refine hK.out _ _ ?_ (fun ah=>?_)
           ·exact z37
           clear hK K hHeld;have hHeld:=ah;clear ah;try simp only [pS]
          rotate_left 1;focus
           refine bz (by rfl) 44 76 _ rfl #[.int .i64 d.a.dev,.int .i64 d.a.inc,.int .i64 d.seq] 3 rfl rfl (by decide) (by decide) underlying44 (by kernel_rfl) (by kernel_rfl) ?_;refine hK.out _ _ ?_ (fun ah=>?_)
           ·exact z71
           clear hK K hHeld;have hHeld:=ah;clear ah;try simp only [pS]
           have hN:=(fun X=>ja X d) X0;refine rH 4 49 rfl fun K hK=>?_;refine au (by rfl) (.tmp 45) (.tmp 48) 44 rfl W.drew.heap.size 76 i0 _ 3 24 underlying44 hi hz0 hz1 hz2 rfl (by decide) _ 0 _ rfl (hown0.alloc _) aO q cO (aJ (o.take q)) rfl l1 (hR1 _ hHeld) (dB _) (by first | omega | (unfold maxLen;omega)) (by first | omega | (unfold maxLen;omega)) hHeld.size ?_;intro v1 X1 hown1 hg1;refine hK.out _ _ ?_ (fun ah=>?_)
           ·exact z36
           clear hK K hHeld;have hHeld:=ah;clear ah;try simp only [pS]
           replace hN:=hN.grown hg1 (fun q hq e=>by have:=(hown0.lt _ e).2;simp only [Option.some.injEq] at hq;subst hq;simp only at this;omega);refine rH 10 55 rfl fun K hK=>?_;refine au (by rfl) (.tmp 49) (.tmp 54) 44 rfl W.drew.heap.size 76 i0 _ 3 24 underlying44 hi hz0 hz1 hz2 rfl (by decide) _ (0+q) _ rfl hown1 (some ⟨X0.heap.size,0,none⟩) 1 1 [.int .i64 d.a.dev,.int .i64 d.a.inc,.int .i64 d.seq] rfl rfl hN (dB [d]) (by first | omega | (unfold maxLen;omega)) (by first | omega | (unfold maxLen;omega)) hHeld.size ?_;intro v2 X2 hown2 hg2;refine hK.out _ _ ?_ (fun ah=>?_)
           ·exact z37
           clear hK K hHeld;have hHeld:=ah;clear ah;try simp only [pS]
         rotate_left 2;focus
          refine bz (by rfl) 44 76 _ rfl #[.int .i64 d.a.dev,.int .i64 d.a.inc,.int .i64 d.seq] 3 rfl rfl (by decide) (by decide) underlying44 (by kernel_rfl) (by kernel_rfl) ?_;refine hK.out _ _ ?_ (fun ah=>?_)
          ·exact z71
          clear hK K hHeld;have hHeld:=ah;clear ah;try simp only [pS]
          have hN:=(fun X=>ja X d) W.drew;refine rH 0 45 rfl fun K hK=>?_;refine dw (by rfl) 44 76 rfl i0 _ 3 underlying44 hi hz0 hz1 (by decide) ?_;intro v0 X0 hown0 hbel0;refine hK.out _ _ ?_ (fun ah=>?_)
          ·exact z72
          clear hK K hHeld;have hHeld:=ah;clear ah;try simp only [pS]
          replace hN:=hN.kept hbel0;have tu:=hown0;replace hown0:=own_base hown0 (b2:=W.drew.heap.size) (by first | exact ar _ | simp);refine rH 4 49 rfl fun K hK=>?_;refine au (by rfl) (.tmp 45) (.tmp 48) 44 rfl W.drew.heap.size 76 i0 _ 3 24 underlying44 hi hz0 hz1 hz2 rfl (by decide) _ 0 _ rfl hown0 aO q cO (aJ (o.take q)) rfl l1 (hR1 _ hHeld) (dB _) (by first | omega | (unfold maxLen;omega)) (by first | omega | (unfold maxLen;omega)) hHeld.size ?_;intro v1 X1 hown1 hg1;refine hK.out _ _ ?_ (fun ah=>?_)
          ·exact z36
          clear hK K hHeld;have hHeld:=ah;clear ah;try simp only [pS]
          replace hN:=hN.grown hg1 (fun q hq e=>by have:=(tu.lt _ e).1;simp only [Option.some.injEq] at hq;subst hq;simp at this;omega);refine rH 10 55 rfl fun K hK=>?_;refine au (by rfl) (.tmp 49) (.tmp 54) 44 rfl W.drew.heap.size 76 i0 _ 3 24 underlying44 hi hz0 hz1 hz2 rfl (by decide) _ (0+q) _ rfl hown1 (some ⟨W.drew.heap.size,0,none⟩) 1 1 [.int .i64 d.a.dev,.int .i64 d.a.inc,.int .i64 d.seq] rfl rfl hN (dB [d]) (by first | omega | (unfold maxLen;omega)) (by first | omega | (unfold maxLen;omega)) hHeld.size ?_;intro v2 X2 hown2 hg2;refine hK.out _ _ ?_ (fun ah=>?_)
          ·exact z37
          clear hK K hHeld;have hHeld:=ah;clear ah;try simp only [pS]
         all_goals
          refine rH 14 59 rfl fun K hK=>?_;refine au (by rfl) (.tmp 55) (.tmp 58) 44 rfl W.drew.heap.size 76 i0 _ 3 24 underlying44 hi hz0 hz1 hz2 rfl (by decide) _ (0+q+1) _ rfl hown2 (oV aO cO q 3) (o.length - q) (cO - q) (aJ (o.drop q)) rfl l2 (hR2 _ hHeld) (dB _) (by first | omega | (unfold maxLen;omega)) (by first | omega | (unfold maxLen;omega)) hHeld.size ?_;intro v3 X3 hown3 hg3;refine hK.out _ _ ?_ (fun ah=>?_)
          ·exact z87
          clear hK K hHeld;have hHeld:=ah;clear ah;try simp only [pS]
          refine tH (v:=?_) 15 3 rfl (bb ⟨by rfl,?_⟩) ?_
          case refine_2 => (intro w hSw; go_simp; try with_reducible rfl)
          try simp only [pS]
          refine wpAnyH_done (by kernel_rfl) ?_ _;refine NoPanic.normal ?_;have e1:[]++aJ (o.take q)++[.int .i64 d.a.dev,.int .i64 d.a.inc,.int .i64 d.seq]++aJ (o.drop q)=aJ (jF d o):=by rw [HI.out,ui,xH];simp [List.append_assoc]
          have e2:0+q+1+(o.length - q)=(jF d o).length:=by rw [HI.out,av,List.length_cons,List.length_take,List.length_drop,Nat.min_eq_left hq];omega
          rw [e1,e2] at hown3;have e3:(jF d o).length=o.length+1:=by rw [<- e2];omega
          have HZ:=aq (ba (eP hown3 (Nat.le_trans hzo hzW)) (HBo.out.trans ((hBW.trans (hHeld.mono hzW)).mono hzo)));have HL2:=aq e3;clear e1 e2 e3 hR1 hR2 l1 l2 hF hcut lX hown3 hHeld oz hBW hbW;go_wp2;go_roundw
          case rel=>exact ⟨k+1,_,by go_num,HLT.out,by rw [HT.out,HP.out],HZ.out.1,by rw [HL2.out];have:=HOL.out;omega,HZ.out.2⟩
          case measure => exact z65
  ·obtain rfl:k=l.length:=by omega
   have HE:Hid (sortD l=o):=by unfold Hid sortD;rw [<- HP.out,List.take_length]
   go_wp2;go_ret;exact ⟨_,rfl,by rw [HE.out];exact hown,hbw⟩
def di (x:Actor) (n:Int) (st:List Dot×Bool) (d:Dot):List Dot×Bool :=
 ((if d.a=x then (if !st.2 && !bC d.a x then st.1++[⟨x,n⟩] else st.1) else (if !st.2 && !bC d.a x then st.1++[⟨x,n⟩] else st.1)++[d]),st.2 || !bC d.a x)
def jP (l:List Dot) (x:Actor) (n:Int):List Dot :=
 if (l.foldl (di x n) ([],false)).2=true then (l.foldl (di x n) ([],false)).1 else (l.foldl (di x n) ([],false)).1++[⟨x,n⟩]
theorem Fz (x:Actor) (n:Int):∀ (l o:List Dot),(∀ d∈l,bC x d.a=true)->l.foldl (di x n) (o,true)=(o++l,true)
 | [],o,_=>by simp
 | d :: l,o,h=>by
   have h1:=h d List.mem_cons_self;have h2:d.a≠x:=fun e=>by rw [e,dF] at h1;cases h1
   rw [List.foldl_cons];have:di x n (o,true) d=(o++[d],true):=by simp [di,h2]
   rw [this,Fz x n l _ (fun e he=>h e (List.mem_cons_of_mem _ he))];simp
theorem GU (x:Actor) (n:Int):∀ (l o:List Dot),pW l->(if (l.foldl (di x n) (o,false)).2=true then (l.foldl (di x n) (o,false)).1 else (l.foldl (di x n) (o,false)).1++[⟨x,n⟩])=o++setM l x n
 | [],o,_=>by simp [setM]
 | d :: l,o,h=>by
   obtain ⟨h1,h2⟩:=List.pairwise_cons.1 h;rw [List.foldl_cons];by_cases hx:d.a=x
   ·have hs:di x n (o,false) d=(o++[⟨x,n⟩],true):=by simp [di,hx,dF]
    rw [hs,Fz x n l _ (fun e he=>by rw [<- hx];exact h1 e he),if_pos rfl];unfold setM;rw [if_pos hx];simp
   ·cases hl:bC d.a x with
    | true =>
      have hs:di x n (o,false) d=(o++[d],false):=by simp [di,hx,hl]
      rw [hs,GU x n l _ h2];rw [show setM (d :: l) x n=d :: setM l x n from by rw [setM,if_neg hx,if_pos hl]];simp
    | false =>
      have hs:di x n (o,false) d=(o++[⟨x,n⟩]++[d],true):=by simp [di,hx,hl]
      have hg:=lQ hx hl;rw [hs,Fz x n l _ (fun e he=>jd hg (h1 e he)),if_pos rfl];unfold setM;rw [if_neg hx,if_neg (by rw [hl];decide)];simp
theorem um {l:List Dot} (h:pW l) (x:Actor) (n:Int):jP l x n=setM l x n:=by
 have:=GU x n l [] h;unfold jP;rw [this];rfl
theorem KW {α β:Type} (f:β->α->β) (b:β) (l:List α) (k:Nat) (h:k<l.length):(l.take (k+1)).foldl f b=f ((l.take k).foldl f b) l[k]:=by
 rw [List.take_add_one,List.getElem?_eq_getElem h,List.foldl_append];rfl
theorem y42 {p q : Prop} (k : q) (h : PLift q -> p := by
 intro kk
 replace hB := (hB.trans (((bh wq.heap.size wq).alloc (ar _) (.cells #[.int .i64 d.a.dev, .int .i64 d.a.inc, .int .i64 d.seq] 202)).mono hB.size)).grown hgrow (by simp; omega) (fun j hj => (hown.lt j hj).1)
 revert hB
 exact kk.down) : p := h ⟨k⟩
theorem y40 {p q : Prop} (k : q) (h : PLift q -> p := by
 intro kk
 have hbY : Below wp.heap.size wp wq := below2 hbA hiA
 replace hown := ownsRow_below hown hbY
 replace hB := hB.trans (hbY.mono hB.size)
 clear hbY
 have hlO : (o).length <= 1073741826 := by (try simp only [av, List.length_cons, List.length_nil]); omega
 have hzX := hB.size
 have c0 := kept hB C0
 have c1 := kept hB C1
 have e0 := kept hB E0
 have e1 := kept hB E1
 have e2 := kept hB E2
 revert hown hB hlO hzX c0 c1 e0 e1 e2
 exact kk.down) : p := h ⟨k⟩
theorem y4 {p q : Prop} (k : q) (h : PLift q -> p := by
 intro kk
 have hBA : Below W0.heap.size W0 WA := hB.trans (hbA.mono hB.size)
 have pc0 : ∀ i : After WA, i.w.cell? ⟨w.heap.size, 0, none⟩ = some (.int .i64 x.dev) := fun i => i.cell (kept hBA C0)
 have pc1 : ∀ i : After WA, i.w.cell? ⟨w.heap.size, 1, none⟩ = some (.int .i64 x.inc) := fun i => i.cell (kept hBA C1)
 have pe0 : ∀ i : After WA, i.w.cell? ⟨A, off + k * 3, none⟩ = some (.int .i64 d.a.dev) := fun i => i.cell (kept hBA E0)
 have pe1 : ∀ i : After WA, i.w.cell? ⟨A, off + k * 3 + 1, none⟩ = some (.int .i64 d.a.inc) := fun i => i.cell (kept hBA E1)
 have pe2 : ∀ i : After WA, i.w.cell? ⟨A, off + k * 3 + 2, none⟩ = some (.int .i64 d.seq) := fun i => i.cell (kept hBA E2)
 clear hBA
 iterate 7 go_big_quiet_step (fail)
 refine wpQuiet_nil ?_
 revert pc0 pc1 pe0 pe1 pe2
 exact kk.down) : p := h ⟨k⟩
theorem NH (a:Option Addr) (cap:Nat) (l:List Dot) (x:Actor) (n:Int) (w:World) (hl:l.length<=268435456) (h:DotsIn w a l) :
 Calls prog 114 #[.slice a l.length cap,fD x,.int .i64 n] w fun e w'=>∃ v,e=.returned v/\w'.ownsRow w.heap.size 202 3 v (jP l x n).length (aJ (jP l x n))/\Below w.heap.size w w':=by
 obtain ⟨i0,hi,hz0,hz1,hz2⟩:=info_parts Tryz.infoMark;have HR:=aq (fun (d:Dot) (X:World)=>AY d.a x X);go_enter func114,ntmps114;go_wp2;have C0:(w.alloc (.cells #[.int .i64 x.dev,.int .i64 x.inc] 74)).cell? ⟨w.heap.size,0,none⟩=some (.int .i64 x.dev):=by go_simp
 have C1:(w.alloc (.cells #[.int .i64 x.dev,.int .i64 x.inc] 74)).cell? ⟨w.heap.size,1,none⟩=some (.int .i64 x.inc):=by go_simp
 have hb0:Below w.heap.size w (w.alloc (.cells #[.int .i64 x.dev,.int .i64 x.inc] 74)):=(bh _ _).alloc (ar _) _;have hz0':w.heap.size+1=(w.alloc (.cells #[.int .i64 x.dev,.int .i64 x.inc] 74)).heap.size:=by simp
 have h0:=h.kept hb0;generalize (w.alloc (.cells #[.int .i64 x.dev,.int .i64 x.inc] 74))=W0 at *;have hown0:(W0.alloc (Obj.cells #[] 202)).ownsRow W0.heap.size 202 3 (.slice (some ⟨W0.heap.size,0,none⟩) 0 0) 0 []:=World.ownsRow_made _ _ _ (ar _) (by decide) rfl;have hbM:Below W0.heap.size W0 (W0.alloc (Obj.cells #[] 202)):=(bh _ _).alloc (ar _) _;have HZ0:=aq hz0';have hlow:w.heap.size<=W0.heap.size:=hb0.size;clear h hz0';go_loopw [7,8,9] (fun u b i wr=>∃ (k:Nat) (o:List Dot) (t:Bool),i=.int .i64 k/\k<=l.length/\b=.bool t/\(l.take k).foldl (di x n) ([],false)=(o,t)/\wr.ownsRow W0.heap.size 202 3 u o.length (aJ o)/\o.length<=2 * k/\Below W0.heap.size W0 wr) (fun _ _ i _=>l.length - (intOf i).toNat)
 case atStart=>exact ⟨0,[],false,rfl,Nat.zero_le _,rfl,rfl,by rw [HZ0.out];exact hown0,Nat.zero_le _,hbM⟩
 case round =>
  obtain ⟨k,o,t,rfl,hk,rfl,hP0,hown,hol,hB⟩:=hrel;have HP:=aq hP0;clear hP0;by_cases hlt:k<l.length
  ·obtain ⟨A,off,rfl,hda⟩:∃ A off,a=some ⟨A,off,none⟩/\DotsAt W0 A off l:=by
        rcases h0 with h | ⟨A,off,h1,h2⟩
        ·rw [h] at hlt;simp at hlt
        ·exact ⟨A,off,h1,h2⟩
   have E0:=hda.dev k hlt;have E1:=hda.inc k hlt;have E2:=hda.seq k hlt;have HT:Hid ((l.take (k+1)).foldl (di x n) ([],false)=di x n (o,t) l[k]):=by unfold Hid;rw [KW _ _ _ _ hlt,HP.out]
   have HLT:=aq hlt;have HR1:=fun (X:World)=>HR.out l[k] X;have hEq:=fun (W:World)=>uB W 9998 l[k].a x;have hm:=kM;have hkl:k<=268435456:=by omega
   generalize l[k]=d at *;clear hda;have HO:=aq hol;clear hlt
   cases t with
   | true =>
     have HA:Hid (True):=trivial;go_upto_region 6 with fail
     refine aN (by kernel_rfl) (by kernel_rfl) (fun WA hWA=>?_);have hbA:Below wr.heap.size wr WA:=by rw [hWA.out];go_grown
     have hBA:Below W0.heap.size W0 WA:=hB.trans (hbA.mono hB.size);have pc0:∀ i:After WA,i.w.cell? ⟨w.heap.size,0,none⟩=some (.int .i64 x.dev):=fun i=>i.cell (kept hBA C0);have pc1:∀ i:After WA,i.w.cell? ⟨w.heap.size,1,none⟩=some (.int .i64 x.inc):=fun i=>i.cell (kept hBA C1);have pe0:∀ i:After WA,i.w.cell? ⟨A,off+k * 3,none⟩=some (.int .i64 d.a.dev):=fun i=>i.cell (kept hBA E0);have pe1:∀ i:After WA,i.w.cell? ⟨A,off+k * 3+1,none⟩=some (.int .i64 d.a.inc):=fun i=>i.cell (kept hBA E1);have pe2:∀ i:After WA,i.w.cell? ⟨A,off+k * 3+2,none⟩=some (.int .i64 d.seq):=fun i=>i.cell (kept hBA E2);clear hWA hBA;iterate 12 go_big_quiet_step (fail)
     refine wpQuiet_nil ?_;rintro _ ⟨i,rfl⟩;have hiA:=i.h;generalize i.w=wp at hiA ⊢;have hbY:Below wr.heap.size wr wp:=below2 hbA hiA;replace hown:=ownsRow_below hown hbY;replace hB:=hB.trans (hbY.mono hB.size);clear hbA hiA hbY pc0 pc1 pe0 pe1 pe2;by_cases he:d.a=x
     ·rw [aR he] at hEq
      have HF:Hid (d.a=x):=he;clear he;go_upto_region 9 with fail
      refine y22 ?_
      intro WA hWA hbA
      refine y4 ?_
      clear hWA
      intro pc0 pc1 pe0 pe1 pe2
      rintro _ ⟨i,rfl⟩;have hiA:=i.h;generalize i.w=wq at hiA ⊢;have hbY:Below wp.heap.size wp wq:=below2 hbA hiA;replace hown:=ownsRow_below hown hbY;replace hB:=hB.trans (hbY.mono hB.size);clear hbA hiA hbY pc0 pc1 pe0 pe1 pe2;have HN:Hid ((l.take (k+1)).foldl (di x n) ([],false)=(o,true)):=by unfold Hid;rw [HT.out];simp [di,HF.out,dF,HA.out]
      have HZ:=aq (ba hown hB);have hll:(o).length<=2 * (k+1):=by have:=HO.out;simp <;> omega
      have HL:=aq hll;clear hown hB hol hll;go_wp2;go_roundw
      case rel=>exact ⟨k+1,o,true,by go_num,HLT.out,rfl,HN.out,HZ.out.1,HL.out,HZ.out.2⟩
      case measure => exact z65
     ·rw [aM he] at hEq
      have HF:Hid (d.a≠x):=he;clear he;go_upto_region 9 with fail
      refine y22 ?_
      intro WA hWA hbA
      refine y4 ?_
      clear hWA
      intro pc0 pc1 pe0 pe1 pe2
      rintro _ ⟨i,rfl⟩;have hiA:=i.h;generalize i.w=wq at hiA ⊢
      refine y40 ?_
      clear hown hB hbA hiA pc0 pc1 pe0 pe1 pe2
      intro hown hB hlO hzX c0 c1 e0 e1 e2
      go_wp2_with (at_builtin;refine wpList_append_own _ rfl _ _ 43 rfl W0.heap.size 202 i0 (.agg #[.int .i64 0,.int .i64 0,.int .i64 0]) 3 24 underlying43 hi hz0 hz1 hz2 rfl (by decide) _ _ _ rfl (hown.alloc _) ⟨wq.heap.size,0,none⟩ 1 1 [.int .i64 d.a.dev,.int .i64 d.a.inc,.int .i64 d.seq] rfl rfl (jb _ _ _) (by simp [Value.oneCell']) (by unfold maxLen;omega) (by omega) (by simp;omega) ?_;intro vwz wz tq hgrow _)
      refine y42 ?_
      clear hB
      intro hB
      clear hown hgrow hlO hzX c0 c1 e0 e1 e2;have hown:wz.ownsRow W0.heap.size 202 3 vwz (o++[d]).length (aJ (o++[d])):=by rw [iT,av];exact tq
      clear tq;have HN:Hid ((l.take (k+1)).foldl (di x n) ([],false)=(o++[d],true)):=by unfold Hid;rw [HT.out];simp [di,HF.out,dF,HA.out]
      have HZ:=aq (ba hown hB);have hll:(o++[d]).length<=2 * (k+1):=by have:=HO.out;simp <;> omega
      have HL:=aq hll;clear hown hB hol hll;go_wp2;go_roundw
      case rel=>exact ⟨k+1,o++[d],true,by go_num,HLT.out,rfl,HN.out,HZ.out.1,HL.out,HZ.out.2⟩
      case measure => exact z65
   | false =>
     cases ha:bC d.a x with
     | true =>
       rw [ha] at HR1;have HA:Hid (bC d.a x=true):=ha;clear ha;go_upto_region 6 with fail
       refine aN (by kernel_rfl) (by kernel_rfl) (fun WA hWA=>?_);have hbA:Below wr.heap.size wr WA:=by rw [hWA.out];go_grown
       have hBA:Below W0.heap.size W0 WA:=hB.trans (hbA.mono hB.size);have pc0:∀ i:After WA,i.w.cell? ⟨w.heap.size,0,none⟩=some (.int .i64 x.dev):=fun i=>i.cell (kept hBA C0);have pc1:∀ i:After WA,i.w.cell? ⟨w.heap.size,1,none⟩=some (.int .i64 x.inc):=fun i=>i.cell (kept hBA C1);have pe0:∀ i:After WA,i.w.cell? ⟨A,off+k * 3,none⟩=some (.int .i64 d.a.dev):=fun i=>i.cell (kept hBA E0);have pe1:∀ i:After WA,i.w.cell? ⟨A,off+k * 3+1,none⟩=some (.int .i64 d.a.inc):=fun i=>i.cell (kept hBA E1);have pe2:∀ i:After WA,i.w.cell? ⟨A,off+k * 3+2,none⟩=some (.int .i64 d.seq):=fun i=>i.cell (kept hBA E2);clear hWA hBA;iterate 9 go_big_quiet_step (fail)
       go_big_quiet_step (exact Calls.after (HR1 _))
       iterate 2 go_big_quiet_step (fail)
       refine wpQuiet_nil ?_;rintro _ ⟨i,rfl⟩;have hiA:=i.h;generalize i.w=wp at hiA ⊢;have hbY:Below wr.heap.size wr wp:=below2 hbA hiA;replace hown:=ownsRow_below hown hbY;replace hB:=hB.trans (hbY.mono hB.size);clear hbA hiA hbY pc0 pc1 pe0 pe1 pe2;by_cases he:d.a=x
       ·rw [aR he] at hEq
        have h9:=HA.out;rw [he,dF] at h9
        cases h9
       ·rw [aM he] at hEq
        have HF:Hid (d.a≠x):=he;clear he;go_upto_region 9 with fail
        refine y22 ?_
        intro WA hWA hbA
        refine y4 ?_
        clear hWA
        intro pc0 pc1 pe0 pe1 pe2
        rintro _ ⟨i,rfl⟩;have hiA:=i.h;generalize i.w=wq at hiA ⊢
        refine y40 ?_
        clear hown hB hbA hiA pc0 pc1 pe0 pe1 pe2
        intro hown hB hlO hzX c0 c1 e0 e1 e2
        go_wp2_with (at_builtin;refine wpList_append_own _ rfl _ _ 43 rfl W0.heap.size 202 i0 (.agg #[.int .i64 0,.int .i64 0,.int .i64 0]) 3 24 underlying43 hi hz0 hz1 hz2 rfl (by decide) _ _ _ rfl (hown.alloc _) ⟨wq.heap.size,0,none⟩ 1 1 [.int .i64 d.a.dev,.int .i64 d.a.inc,.int .i64 d.seq] rfl rfl (jb _ _ _) (by simp [Value.oneCell']) (by unfold maxLen;omega) (by omega) (by simp;omega) ?_;intro vwz wz tq hgrow _)
        refine y42 ?_
        clear hB
        intro hB
        clear hown hgrow hlO hzX c0 c1 e0 e1 e2;have hown:wz.ownsRow W0.heap.size 202 3 vwz (o++[d]).length (aJ (o++[d])):=by rw [iT,av];exact tq
        clear tq;have HN:Hid ((l.take (k+1)).foldl (di x n) ([],false)=(o++[d],false)):=by unfold Hid;rw [HT.out];simp [di,HF.out,dF,HA.out]
        have HZ:=aq (ba hown hB);have hll:(o++[d]).length<=2 * (k+1):=by have:=HO.out;simp <;> omega
        have HL:=aq hll;clear hown hB hol hll;go_wp2;go_roundw
        case rel=>exact ⟨k+1,o++[d],false,by go_num,HLT.out,rfl,HN.out,HZ.out.1,HL.out,HZ.out.2⟩
        case measure => exact z65
     | false =>
       rw [ha] at HR1;have HA:Hid (bC d.a x=false):=ha;clear ha;go_upto_region 6 with fail
       refine aN (by kernel_rfl) (by kernel_rfl) (fun WA hWA=>?_);have hbA:Below wr.heap.size wr WA:=by rw [hWA.out];go_grown
       have hBA:Below W0.heap.size W0 WA:=hB.trans (hbA.mono hB.size);have pc0:∀ i:After WA,i.w.cell? ⟨w.heap.size,0,none⟩=some (.int .i64 x.dev):=fun i=>i.cell (kept hBA C0);have pc1:∀ i:After WA,i.w.cell? ⟨w.heap.size,1,none⟩=some (.int .i64 x.inc):=fun i=>i.cell (kept hBA C1);have pe0:∀ i:After WA,i.w.cell? ⟨A,off+k * 3,none⟩=some (.int .i64 d.a.dev):=fun i=>i.cell (kept hBA E0);have pe1:∀ i:After WA,i.w.cell? ⟨A,off+k * 3+1,none⟩=some (.int .i64 d.a.inc):=fun i=>i.cell (kept hBA E1);have pe2:∀ i:After WA,i.w.cell? ⟨A,off+k * 3+2,none⟩=some (.int .i64 d.seq):=fun i=>i.cell (kept hBA E2);clear hWA hBA;iterate 9 go_big_quiet_step (fail)
       go_big_quiet_step (exact Calls.after (HR1 _))
       iterate 2 go_big_quiet_step (fail)
       refine wpQuiet_nil ?_;rintro _ ⟨i,rfl⟩;have hiA:=i.h;generalize i.w=wp at hiA ⊢;have hbY:Below wr.heap.size wr wp:=below2 hbA hiA;replace hown:=ownsRow_below hown hbY;replace hB:=hB.trans (hbY.mono hB.size);clear hbA hiA hbY pc0 pc1 pe0 pe1 pe2;have hlO:o.length<=1073741826:=by (try simp only [av,List.length_cons,List.length_nil]);omega
       have hzX:=hB.size;have c0:=kept hB C0;have c1:=kept hB C1;have e0:=kept hB E0;have e1:=kept hB E1;have e2:=kept hB E2;go_upto_region 9 with (at_builtin;refine wpList_append_own _ rfl _ _ 43 rfl W0.heap.size 202 i0 (.agg #[.int .i64 0,.int .i64 0,.int .i64 0]) 3 24 underlying43 hi hz0 hz1 hz2 rfl (by decide) _ _ _ rfl (hown.alloc _) ⟨wp.heap.size,0,none⟩ 1 1 [.int .i64 x.dev,.int .i64 x.inc,.int .i64 n] rfl rfl (jb _ _ _) (by simp [Value.oneCell']) (by unfold maxLen;omega) (by omega) (by simp;omega) ?_;intro vwv wv Qq hgrow _)
       replace hB:=(hB.trans (((bh wp.heap.size wp).alloc (ar _) (.cells #[.int .i64 x.dev,.int .i64 x.inc,.int .i64 n] 202)).mono hB.size)).grown hgrow (by simp;omega) (fun j hj=>(hown.lt j hj).1);clear hown hgrow hlO hzX c0 c1 e0 e1 e2;have hown:wv.ownsRow W0.heap.size 202 3 vwv (o++[(⟨x,n⟩:Dot)]).length (aJ (o++[(⟨x,n⟩:Dot)])):=by rw [iT,av];exact Qq
       clear Qq;by_cases he:d.a=x
       ·rw [aR he] at hEq
        have HF:Hid (d.a=x):=he;clear he;go_upto_region 9 with fail
        refine aN (by kernel_rfl) (by kernel_rfl) (fun WA hWA=>?_);have hbA:Below wv.heap.size wv WA:=by rw [hWA.out];go_grown
        refine y4 ?_
        clear hWA
        intro pc0 pc1 pe0 pe1 pe2
        rintro _ ⟨i,rfl⟩;have hiA:=i.h;generalize i.w=wq at hiA ⊢;have hbY:Below wv.heap.size wv wq:=below2 hbA hiA;replace hown:=ownsRow_below hown hbY;replace hB:=hB.trans (hbY.mono hB.size);clear hbA hiA hbY pc0 pc1 pe0 pe1 pe2;have HN:Hid ((l.take (k+1)).foldl (di x n) ([],false)=((o++[(⟨x,n⟩:Dot)]),true)):=by unfold Hid;rw [HT.out];simp [di,HF.out,dF,HA.out]
        have HZ:=aq (ba hown hB);have hll:((o++[(⟨x,n⟩:Dot)])).length<=2 * (k+1):=by have:=HO.out;simp <;> omega
        have HL:=aq hll;clear hown hB hol hll;go_wp2;go_roundw
        case rel=>exact ⟨k+1,(o++[(⟨x,n⟩:Dot)]),true,by go_num,HLT.out,rfl,HN.out,HZ.out.1,HL.out,HZ.out.2⟩
        case measure => exact z65
       ·rw [aM he] at hEq
        have HF:Hid (d.a≠x):=he;clear he;go_upto_region 9 with fail
        refine aN (by kernel_rfl) (by kernel_rfl) (fun WA hWA=>?_);have hbA:Below wv.heap.size wv WA:=by rw [hWA.out];go_grown
        refine y4 ?_
        clear hWA
        intro pc0 pc1 pe0 pe1 pe2
        rintro _ ⟨i,rfl⟩;have hiA:=i.h;generalize i.w=wq at hiA ⊢;have hbY:Below wv.heap.size wv wq:=below2 hbA hiA;replace hown:=ownsRow_below hown hbY;replace hB:=hB.trans (hbY.mono hB.size);clear hbA hiA hbY pc0 pc1 pe0 pe1 pe2;have hlO:((o++[(⟨x,n⟩:Dot)])).length<=1073741826:=by (try simp only [av,List.length_cons,List.length_nil]);omega
        have hzX:=hB.size;have c0:=kept hB C0;have c1:=kept hB C1;have e0:=kept hB E0;have e1:=kept hB E1;have e2:=kept hB E2;go_wp2_with (at_builtin;refine wpList_append_own _ rfl _ _ 43 rfl W0.heap.size 202 i0 (.agg #[.int .i64 0,.int .i64 0,.int .i64 0]) 3 24 underlying43 hi hz0 hz1 hz2 rfl (by decide) _ _ _ rfl (hown.alloc _) ⟨wq.heap.size,0,none⟩ 1 1 [.int .i64 d.a.dev,.int .i64 d.a.inc,.int .i64 d.seq] rfl rfl (jb _ _ _) (by simp [Value.oneCell']) (by unfold maxLen;omega) (by omega) (by simp;omega) ?_;intro vwz wz tq hgrow _)
        refine y42 ?_
        clear hB
        intro hB
        clear hown hgrow hlO hzX c0 c1 e0 e1 e2;have hown:wz.ownsRow W0.heap.size 202 3 vwz (o++[(⟨x,n⟩:Dot)]++[d]).length (aJ (o++[(⟨x,n⟩:Dot)]++[d])):=by rw [iT,av];exact tq
        clear tq;have HN:Hid ((l.take (k+1)).foldl (di x n) ([],false)=((o++[(⟨x,n⟩:Dot)])++[d],true)):=by unfold Hid;rw [HT.out];simp [di,HF.out,dF,HA.out]
        have HZ:=aq (ba hown hB);have hll:((o++[(⟨x,n⟩:Dot)])++[d]).length<=2 * (k+1):=by have:=HO.out;simp <;> omega
        have HL:=aq hll;clear hown hB hol hll;go_wp2;go_roundw
        case rel=>exact ⟨k+1,(o++[(⟨x,n⟩:Dot)])++[d],true,by go_num,HLT.out,rfl,HN.out,HZ.out.1,HL.out,HZ.out.2⟩
        case measure => exact z65
  ·obtain rfl:k=l.length:=by omega
   have hP:=HP.out;rw [List.take_length] at hP;have hkl:l.length<=268435456:=hl
   cases t with
   | true =>
     have HE:Hid (jP l x n=o):=by unfold Hid jP;rw [hP,if_pos rfl]
     clear hP;go_wp2;go_ret;exact ⟨_,rfl,by rw [HE.out];exact eP hown hlow,hb0.trans (hB.mono hb0.size)⟩
   | false =>
     have HE:Hid (jP l x n=o++[⟨x,n⟩]):=by unfold Hid jP;rw [hP,if_neg (by show ¬ (false=true);decide)]
     clear hP;have c0:=kept hB C0;have c1:=kept hB C1;have hzX:=hB.size;go_wp2_with (at_builtin;go_loud (refine wpList_append_own _ rfl _ _ 43 rfl W0.heap.size 202 i0 (.agg #[.int .i64 0,.int .i64 0,.int .i64 0]) 3 24 underlying43 hi hz0 hz1 hz2 rfl (by decide) _ _ _ rfl (hown.alloc _) ⟨wr.heap.size,0,none⟩ 1 1 [.int .i64 x.dev,.int .i64 x.inc,.int .i64 n] rfl rfl (jb _ _ _) (by simp [Value.oneCell']) (by unfold maxLen;omega) (by omega) (by simp;omega) ?_);intro v9 w9 EE hgrow _)
     go_ret;have hB9:=(hB.trans (((bh wr.heap.size wr).alloc (ar _) (.cells #[.int .i64 x.dev,.int .i64 x.inc,.int .i64 n] 202)).mono hB.size)).grown hgrow (by simp;omega) (fun j hj=>(hown.lt j hj).1);refine ⟨_,rfl,?_,hb0.trans (hB9.mono hb0.size)⟩;rw [HE.out,iT,av];exact eP EE hlow
end Go.Proofs.YthphepeniaemoaaGreat
