/- The reference's marks and dots: Get, Has, Sort, Set. Conditions: at most 2^30 of them. -/
import Derived.Test.YthphepeniaemoaaGreatSrtK
import Derived.Test.YthphepeniaemoaaGreatVecD
set_option linter.unusedSimpArgs false
set_option linter.unusedVariables false
set_option linter.unnecessarySimpa false
set_option maxHeartbeats 16000000
set_option maxRecDepth 100000
open Go.Proofs.Tryz
namespace Go.Proofs.YthphepeniaemoaaGreat
open Go.RowKit
theorem O5 (d:Dot) (l:List Dot) (a:Actor):eY (d :: l) a=if d.a=a then d.seq else eY l a:=by
 unfold eY;rw [List.find?_cons];by_cases h:d.a=a
 ·rw [aR h,if_pos h]
 ·rw [aM h,if_neg h]
/-! ### 17.Get -/
theorem z121 {p : Prop} (h : p := by
 clear he
 go_wp2
 go_quiet (fail)
 go_wp2
 go_roundw
 case rel => exact ⟨k + 1, by go_num, HLT.out, HE.out, below_drewN hbr nq⟩
 case measure => exact z64) : p := h
theorem Em (a:Option Addr) (cap:Nat) (l:List Dot) (x:Actor) (w:World) (hl:l.length<=1073741824) (h:DotsIn w a l) :
 Calls prog 113 #[.slice a l.length cap,fA x] w fun e w'=>e=.returned (.int .i64 (eY l x))/\Below w.heap.size w w':=by
 go_enter func113,ntmps113;go_wp2;have c0:(w.alloc (.cells #[.int .i64 x.dev,.int .i64 x.inc] 74)).cell? ⟨w.heap.size,0,none⟩=some (.int .i64 x.dev):=by go_simp
 have c1:(w.alloc (.cells #[.int .i64 x.dev,.int .i64 x.inc] 74)).cell? ⟨w.heap.size,1,none⟩=some (.int .i64 x.inc):=by go_simp
 have hb0:Below w.heap.size w (w.alloc (.cells #[.int .i64 x.dev,.int .i64 x.inc] 74)):=(bb _ _).alloc (aq _) _;have hz0:w.heap.size<(w.alloc (.cells #[.int .i64 x.dev,.int .i64 x.inc] 74)).heap.size:=by simp
 have h0:=h.kept hb0;generalize (w.alloc (.cells #[.int .i64 x.dev,.int .i64 x.inc] 74))=W0 at *;clear h;go_loopw [5] (fun i wr=>∃ k:Nat,i=.int .i64 k/\k<=l.length/\eY l x=eY (l.drop k) x/\Below W0.heap.size W0 wr) (fun i _=>l.length - (intOf i).toNat)
 case atStart=>exact ⟨0,rfl,Nat.zero_le _,rfl,bb _ _⟩
 case round =>
  obtain ⟨k,rfl,hk,hP0,hbr⟩:=hrel;have HP:=aa hP0;clear hP0;replace c0:=kept hbr c0;replace c1:=kept hbr c1;have HB:=aa (hb0.trans (hbr.mono hb0.size));by_cases hlt:k<l.length
  ·obtain ⟨A,off,rfl,hda⟩:∃ A off,a=some ⟨A,off,none⟩/\DotsAt wr A off l:=by
        rcases h0.kept hbr with h | ⟨A,off,h1,h2⟩
        ·exact z135
        ·exact ⟨A,off,h1,h2⟩
   have e0:=hda.dev k hlt;have e1:=hda.inc k hlt;have e2:=hda.seq k hlt;have HT:Hid (eY (l.drop k) x=if l[k].a=x then l[k].seq else eY (l.drop (k+1)) x):=by unfold Hid;rw [List.drop_eq_getElem_cons hlt,O5]
   have HLT:=aa hlt;have hEq:=fun (W:World)=>tX W 9998 l[k].a x;have hm:=kP;generalize l[k]=d at *;clear hda;by_cases he:d.a=x
   ·rw [aR he] at hEq
    have HE:Hid (eY l x=d.seq):=by unfold Hid;rw [HP.out,HT.out,if_pos he]
    clear he;go_wp2;go_quiet (fail)
    go_wp2;go_ret;exact ⟨by rw [HE.out];rfl,below_drewN HB.out nq⟩
   ·rw [aM he] at hEq
    have HE:Hid (eY l x=eY (l.drop (k+1)) x):=by unfold Hid;rw [HP.out,HT.out,if_neg he]
    exact z121
  ·obtain rfl:k=l.length:=by omega
   have HE:Hid (eY l x=0):=by unfold Hid;rw [HP.out,List.drop_length];rfl
   go_wp2;go_ret;exact ⟨by rw [HE.out];rfl,HB.out⟩
/-! ### 17.Has -/
theorem Oc (a:Option Addr) (cap:Nat) (l:List Dot) (d:Dot) (w:World) (hl:l.length<=1073741824) (h:DotsIn w a l) :
 Calls prog 112 #[.slice a l.length cap,bT d] w fun e w'=>e=.returned (.bool (iI l d))/\Below w.heap.size w w':=by
 have HR0:=fun (X:World)=>oU d X;have HG:=aa (fun (X:World) (h:DotsIn X a l)=>Em a cap l d.a X hl h);have HE:Hid (iI l d=(bi d && decide (d.seq<=eY l d.a))):=rfl;generalize iI l d=r at *
 cases hd:bi d with
 | false =>
   rw [hd] at HR0;have HE2:Hid (r=false):=by unfold Hid;rw [HE.out,hd];rfl
   have HR:=aa HR0;clear HR0 hd HE;go_enter func112,ntmps112;go_upto_region 1 with fail
   refine aH (by kernel_rfl) (by kernel_rfl) (fun W hW=>?_);have hbw:Below w.heap.size w W:=by rw [hW.out];go_grown
   have x0:∀ i:After W,i.w.cell? ⟨w.heap.size,0,none⟩=some (.int .i64 d.a.dev):=fun i=>i.cell (by rw [hW.out];go_simp);have x1:∀ i:After W,i.w.cell? ⟨w.heap.size,1,none⟩=some (.int .i64 d.a.inc):=fun i=>i.cell (by rw [hW.out];go_simp);have x2:∀ i:After W,i.w.cell? ⟨w.heap.size,2,none⟩=some (.int .i64 d.seq):=fun i=>i.cell (by rw [hW.out];go_simp);clear hW h;go_big_quiet_step (fail)
   go_big_quiet_step (exact Calls.after (HR.out _))
   iterate 10 go_big_quiet_step (fail)
   refine wpQuiet_nil ?_;rintro _ ⟨i,rfl⟩;have hib:=i.h;generalize i.w=wi at hib ⊢;go_wp2;go_ret;exact ⟨au HE2.out.symm,below2 hbw hib⟩
 | true =>
   rw [hd] at HR0;have HE2:Hid (r=decide (d.seq<=eY l d.a)):=by unfold Hid;rw [HE.out,hd];rfl
   have HR:=aa HR0;clear HR0 hd HE;go_enter func112,ntmps112;go_upto_region 1 with fail
   refine aH (by kernel_rfl) (by kernel_rfl) (fun W hW=>?_);have hbw:Below w.heap.size w W:=by rw [hW.out];go_grown
   have h1:=h.kept hbw;have x0:∀ i:After W,i.w.cell? ⟨w.heap.size,0,none⟩=some (.int .i64 d.a.dev):=fun i=>i.cell (by rw [hW.out];go_simp);have x1:∀ i:After W,i.w.cell? ⟨w.heap.size,1,none⟩=some (.int .i64 d.a.inc):=fun i=>i.cell (by rw [hW.out];go_simp);have x2:∀ i:After W,i.w.cell? ⟨w.heap.size,2,none⟩=some (.int .i64 d.seq):=fun i=>i.cell (by rw [hW.out];go_simp);clear hW h;go_big_quiet_step (fail)
   go_big_quiet_step (exact Calls.after (HR.out _))
   iterate 4 go_big_quiet_step (fail)
   go_big_quiet_step (exact Calls.after (HG.out _ (h1.kept (After.h _))))
   iterate 5 go_big_quiet_step (fail)
   refine wpQuiet_nil ?_;rintro _ ⟨i,rfl⟩;have hib:=i.h;generalize i.w=wi at hib ⊢;go_wp2;go_ret;exact ⟨au HE2.out.symm,below2 hbw hib⟩
/-! ### 16.Has -/
theorem Oe (a:Option Addr) (cap:Nat) (l:List Dot) (x:Dot) (w:World) (hl:l.length<=1073741824) (h:DotsIn w a l) :
 Calls prog 142 #[.slice a l.length cap,bT x] w fun e w'=>e=.returned (.bool (decide (x∈l)))/\Below w.heap.size w w':=by
 go_enter func142,ntmps142;go_wp2;have c0:(w.alloc (.cells #[.int .i64 x.a.dev,.int .i64 x.a.inc,.int .i64 x.seq] 76)).cell? ⟨w.heap.size,0,none⟩=some (.int .i64 x.a.dev):=by go_simp
 have c1:(w.alloc (.cells #[.int .i64 x.a.dev,.int .i64 x.a.inc,.int .i64 x.seq] 76)).cell? ⟨w.heap.size,1,none⟩=some (.int .i64 x.a.inc):=by go_simp
 have c2:(w.alloc (.cells #[.int .i64 x.a.dev,.int .i64 x.a.inc,.int .i64 x.seq] 76)).cell? ⟨w.heap.size,2,none⟩=some (.int .i64 x.seq):=by go_simp
 have hb0:Below w.heap.size w (w.alloc (.cells #[.int .i64 x.a.dev,.int .i64 x.a.inc,.int .i64 x.seq] 76)):=(bb _ _).alloc (aq _) _;have hz0:w.heap.size<(w.alloc (.cells #[.int .i64 x.a.dev,.int .i64 x.a.inc,.int .i64 x.seq] 76)).heap.size:=by simp
 have h0:=h.kept hb0;generalize (w.alloc (.cells #[.int .i64 x.a.dev,.int .i64 x.a.inc,.int .i64 x.seq] 76))=W0 at *;clear h;go_loopw [5] (fun i wr=>∃ k:Nat,i=.int .i64 k/\k<=l.length/\(x∈l↔x∈l.drop k)/\Below W0.heap.size W0 wr) (fun i _=>l.length - (intOf i).toNat)
 case atStart=>exact ⟨0,rfl,Nat.zero_le _,Iff.rfl,bb _ _⟩
 case round =>
  obtain ⟨k,rfl,hk,hP0,hbr⟩:=hrel;have HP:=aa hP0;clear hP0;replace c0:=kept hbr c0;replace c1:=kept hbr c1;replace c2:=kept hbr c2;have HB:=aa (hb0.trans (hbr.mono hb0.size));by_cases hlt:k<l.length
  ·obtain ⟨A,off,rfl,hda⟩:∃ A off,a=some ⟨A,off,none⟩/\DotsAt wr A off l:=by
        rcases h0.kept hbr with h | ⟨A,off,h1,h2⟩
        ·exact z135
        ·exact ⟨A,off,h1,h2⟩
   have e0:=hda.dev k hlt;have e1:=hda.inc k hlt;have e2:=hda.seq k hlt;have HT:Hid (x∈l.drop k↔x=l[k]\/x∈l.drop (k+1)):=by unfold Hid;rw [List.drop_eq_getElem_cons hlt,List.mem_cons]
   have HLT:=aa hlt;have hEq:=fun (W:World)=>EQ W 9997 l[k] x;have hm:=lw;generalize l[k]=d at *;clear hda;by_cases he:d=x
   ·rw [aR he] at hEq
    have HE:Hid (decide (x∈l)=true):=aR (HP.out.2 (HT.out.2 (a8 he.symm)));clear he;go_wp2;go_quiet (fail)
    go_wp2;go_ret;exact ⟨au HE.out.symm,below_drewN HB.out nq⟩
   ·rw [aM he] at hEq
    have HE:Hid (x∈l↔x∈l.drop (k+1)):=HP.out.trans (HT.out.trans ⟨fun h=>h.resolve_left fun e=>he e.symm,ba⟩)
    exact z121
  ·obtain rfl:k=l.length:=by omega
   have HE:Hid (decide (x∈l)=false):=aM (fun h=>by have:=HP.out.1 h;rw [List.drop_length] at this;cases this);go_wp2;go_ret;exact ⟨au HE.out.symm,HB.out⟩
theorem qE:∀ (l:List Dot) (k:Nat),(aI l).take (k * 3)=aI (l.take k)
 | l,0=>by simp [aI]
 | [],k+1=>by simp [aI]
 | g :: l,k+1=>by
   rw [show (k+1) * 3=k * 3+3 by omega,List.take_succ_cons];show (aI (g :: l)).take _=aI (g :: l.take k);rw [show aI (g :: l)=[.int .i64 g.a.dev,.int .i64 g.a.inc,.int .i64 g.seq]++aI l from rfl,show aI (g :: l.take k)=[.int .i64 g.a.dev,.int .i64 g.a.inc,.int .i64 g.seq]++aI (l.take k) from rfl,<- qE l k];simp
theorem qF:∀ (l:List Dot) (k:Nat),(aI l).drop (k * 3)=aI (l.drop k)
 | l,0=>by simp
 | [],k+1=>by simp [aI]
 | g :: l,k+1=>by
   rw [show (k+1) * 3=k * 3+3 by omega,List.drop_succ_cons,<- qF l k];rw [show aI (g :: l)=[.int .i64 g.a.dev,.int .i64 g.a.inc,.int .i64 g.seq]++aI l from rfl];simp
theorem sH (l m:List Dot):aI (l++m)=aI l++aI m:=by simp [aI]
theorem xh (d:Dot) (l:List Dot):aI (d :: l)=[.int .i64 d.a.dev,.int .i64 d.a.inc,.int .i64 d.seq]++aI l:=rfl
/-- how many are ahead of a dot -/
def fP (l:List Dot) (d:Dot):Nat:=(l.takeWhile fun x=>bV x d).length
theorem z117 {p : Prop} (h : p := by
 rw [List.drop_eq_getElem_cons h, List.takeWhile_cons]
 simp only [hp, if_true, List.length_cons]) : p := h
theorem LU {l:List Dot} {d:Dot} {k:Nat} (h:k<l.length) (hp:bV l[k] d=true):fP (l.drop k) d=fP (l.drop (k+1)) d+1:=by
 unfold fP
 exact z117
theorem z107 {p : Prop} (h : p := by
 rw [List.drop_eq_getElem_cons h, List.takeWhile_cons]
 simp only [hp, Bool.false_eq_true, if_false, List.length_nil]) : p := h
theorem PI {l:List Dot} {d:Dot} {k:Nat} (h:k<l.length) (hp:bV l[k] d=false):fP (l.drop k) d=0:=by
 unfold fP
 exact z107
theorem BZ (d:Dot):∀ (l:List Dot),(∀ x,l[fP l d]?=some x->x≠d)->jJ d l=l.take (fP l d)++d :: l.drop (fP l d)
 | [],_=>rfl
 | y :: l,h=>by
   cases hy:bV y d with
   | true =>
     have e:fP (y :: l) d=fP l d+1:=by unfold fP;rw [List.takeWhile_cons];simp [hy]
     rw [e] at h ⊢;unfold jJ;rw [if_pos hy,BZ d l (fun x hx=>h x (by simpa using hx))];simp
   | false =>
     have e:fP (y :: l) d=0:=by unfold fP;rw [List.takeWhile_cons];simp [hy]
     rw [e] at h ⊢;unfold jJ;rw [if_neg (by rw [hy];decide),if_neg (h y rfl)];rfl
theorem EF (d:Dot):∀ (l:List Dot),l[fP l d]?=some d->jJ d l=l
 | [],h=>by simp [fP] at h
 | y :: l,h=>by
   cases hy:bV y d with
   | true =>
     have e:fP (y :: l) d=fP l d+1:=by unfold fP;rw [List.takeWhile_cons];simp [hy]
     rw [e] at h;unfold jJ;rw [if_pos hy,EF d l (by simpa using h)]
   | false =>
     have e:fP (y :: l) d=0:=by unfold fP;rw [List.takeWhile_cons];simp [hy]
     rw [e] at h;have hyd:y=d:=by simpa using h
     unfold jJ;rw [if_neg (by rw [hy];decide),if_pos hyd]
theorem Lm {w:World} {a:Option Addr} {l:List Dot} (h:CellsIn w a (aI l)) {k:Nat} (hk:k<l.length):∃ A off,a=some ⟨A,off,none⟩/\w.cell? ⟨A,off+k * 3,none⟩=some (.int .i64 l[k].a.dev)/\w.cell? ⟨A,off+k * 3+1,none⟩=some (.int .i64 l[k].a.inc)/\w.cell? ⟨A,off+k * 3+2,none⟩=some (.int .i64 l[k].seq):=by
 obtain ⟨g0,g1,g2⟩:=gW l k hk;rcases h with h | ⟨A,off,rfl,hr⟩
 ·rw [h] at g0;simp at g0
 ·exact ⟨A,off,rfl,hr _ _ g0,hr _ _ g1,hr _ _ g2⟩
theorem jh (w:World) (d:Dot):CellsIn (w.alloc (.cells #[.int .i64 d.a.dev,.int .i64 d.a.inc,.int .i64 d.seq] 76)) (some ⟨w.heap.size,0,none⟩) [.int .i64 d.a.dev,.int .i64 d.a.inc,.int .i64 d.seq]:=by
 refine ba ⟨_,_,rfl,fun j v hv=>?_⟩;rw [av,World.cell?_alloc_new];simpa using hv
theorem z51 {p : Prop} (h : p := by
 match j, hv with
 | 0, hv => simp only [List.getElem?_cons_zero, Option.some.injEq] at hv; subst hv; exact kept h (kept hBW D0)
 | 1, hv => simp only [List.getElem?_cons_succ, List.getElem?_cons_zero, Option.some.injEq] at hv; subst hv; exact kept h (kept hBW D1)
 | 2, hv => simp only [List.getElem?_cons_succ, List.getElem?_cons_zero, Option.some.injEq] at hv; subst hv; exact kept h (kept hBW D2)
 | j + 3, hv => simp at hv) : p := h
theorem z35 {p : Prop} (h : p := by exact hHeld.grown hg2 hHeld.size (fun k hk => (hown1.lt k hk).1)) : p := h
theorem z34 {p : Prop} (h : p := by exact hHeld.grown hg1 hHeld.size (fun k hk => (hown0.lt k hk).1)) : p := h
theorem z87 {p : Prop} (h : p := by exact hHeld.grown hg3 hHeld.size (fun k hk => (hown2.lt k hk).1)) : p := h
theorem z72 {p : Prop} (h : p := by exact hHeld.trans (hbel0.mono hHeld.size)) : p := h
theorem z71 {p : Prop} (h : p := by exact hHeld.alloc hHeld.size _) : p := h
theorem z61 {p : Prop} (h : p := by (intro w hSw; go_simp; try with_reducible rfl)) : p := h
theorem y53 {p q : Prop} (k : q) (h : PLift q -> p := by
 intro kk
 try simp only [pS]
 refine tH 13 58 rfl (a8 ⟨by rfl, fun W hSW => gq _ _ _ _ _ rfl _ (mX W)⟩) ?_
 try simp only [pS]
 refine wpAnyH_ready (rs := [0, 9]) (by kernel_rfl) (by simp) ?_
 exact kk.down) : p := h ⟨k⟩
theorem y50 {p q : Prop} (k : q) (h : PLift q -> p := by
 intro kk
 try simp only [pS]
 refine tH 8 53 rfl (yieldsIf_load_mid (by rfl) 76 _ rfl A (off + k * 3) rfl [.int .i64 d.a.dev, .int .i64 d.a.inc, .int .i64 d.seq] _ (fun X h => hF X h) underlying76 rfl (by kernel_rfl)) ?_
 try simp only [pS]
 exact kk.down) : p := h ⟨k⟩
theorem y31 {p q : Prop} (k : q) (h : PLift q -> p := by
 intro kk
 have pF0 : ∀ i : After WA, i.w.cell? ⟨AO, ofO + q * 3, none⟩ = some (.int .i64 y.a.dev) := fun i => i.cell (kept hBA F0)
 have pF1 : ∀ i : After WA, i.w.cell? ⟨AO, ofO + q * 3 + 1, none⟩ = some (.int .i64 y.a.inc) := fun i => i.cell (kept hBA F1)
 have pF2 : ∀ i : After WA, i.w.cell? ⟨AO, ofO + q * 3 + 2, none⟩ = some (.int .i64 y.seq) := fun i => i.cell (kept hBA F2)
 iterate 15 go_big_quiet_step (fail)
 refine wpQuiet_nil ?_
 revert pF0 pF1 pF2
 exact kk.down) : p := h ⟨k⟩
theorem y68 {p q : Prop} (k : q) (h : PLift q -> p := by
 intro kk
 refine wp_region_noPanic ?_
 refine wp_region_held_drew (S := fun W' => Below W.drew.heap.size W.drew W') (by kernel_rfl) (bb _ _) (fun hHeld => ?_)
 revert hHeld
 exact kk.down) : p := h ⟨k⟩
theorem y27 {p q : Prop} (k : q) (h : PLift q -> p := by
 intro kk
 have l1 : (aI (o.take q)).length = q * 3 := by rw [dO, List.length_take, Nat.min_eq_left hq]
 have l2 : (aI (o.drop q)).length = (o.length - q) * 3 := by rw [dO, List.length_drop]
 have hF : ∀ X, Below W.drew.heap.size W.drew X -> X.rangeAt A (off + k * 3) [.int .i64 d.a.dev, .int .i64 d.a.inc, .int .i64 d.seq] := fun X h j v hv => by
  exact z51
 refine y68 ?_
 intro hHeld
 revert l1 l2 hF hHeld
 exact kk.down) : p := h ⟨k⟩
theorem y22 {p q : Prop} (k : q) (h : PLift q -> p := by
 intro kk
 refine aH (by kernel_rfl) (by kernel_rfl) (fun WA hWA => ?_)
 have hbA : Below wp.heap.size wp WA := by rw [hWA.out]; go_grown
 revert WA hWA hbA
 exact kk.down) : p := h ⟨k⟩
theorem y10 {p q : Prop} (k : q) (h : PLift q -> p := by
 intro kk
 have hBA : Below wo.heap.size wo WA := hB.trans (hbA.mono hB.size)
 have pD0 : ∀ i : After WA, i.w.cell? ⟨A, off + k * 3, none⟩ = some (.int .i64 d.a.dev) := fun i => i.cell (kept hBA D0)
 have pD1 : ∀ i : After WA, i.w.cell? ⟨A, off + k * 3 + 1, none⟩ = some (.int .i64 d.a.inc) := fun i => i.cell (kept hBA D1)
 have pD2 : ∀ i : After WA, i.w.cell? ⟨A, off + k * 3 + 2, none⟩ = some (.int .i64 d.seq) := fun i => i.cell (kept hBA D2)
 revert hBA pD0 pD1 pD2
 exact kk.down) : p := h ⟨k⟩
theorem y78 {p q : Prop} (k : q) (h : PLift q -> p := by
 intro kk
 refine aN (fun W hW => ?_)
 have hbW : Below wx.heap.size wx W.drew := by rw [hW.out]; go_grown
 have hBW : Below wo.heap.size wo W.drew := hB.trans (hbW.mono hB.size)
 have mJ := WC.kept hBW
 have hzW := hBW.size
 revert W hW hbW hBW mJ hzW
 exact kk.down) : p := h ⟨k⟩
theorem y62 {p q : Prop} (k : q) (h : PLift q -> p := by
 intro kk
 refine aH (by kernel_rfl) (by kernel_rfl) (fun WA hWA => ?_)
 have hbA : Below wr.heap.size wr WA := by rw [hWA.out]; go_grown
 revert WA hWA hbA
 exact kk.down) : p := h ⟨k⟩
theorem J7 (a:Option Addr) (cap:Nat) (l:List Dot) (w:World) (hl:l.length<=1048576) (h:DotsIn w a l) :
 Calls prog 116 #[.slice a l.length cap] w fun e w'=>∃ v,e=.returned v/\w'.ownsRow w.heap.size 76 3 v (sortD l).length (aI (sortD l))/\Below w.heap.size w w':=by
 obtain ⟨i0,hi,hz0,hz1,hz2⟩:=info_parts Tryz.infoDot;have HR:=aa (fun (x y:Dot) (X:World)=>xQ x y X);go_enter func116,ntmps116;go_wp2;have hown0:(w.alloc (Obj.cells #[] 76)).ownsRow w.heap.size 76 3 (.slice (some ⟨w.heap.size,0,none⟩) 0 0) 0 []:=World.ownsRow_made _ _ _ (aq _) (by decide) rfl;have hbM:Below w.heap.size w (w.alloc (Obj.cells #[] 76)):=(bb _ _).alloc (aq _) _;go_loopw [3,4] (fun u i wr=>∃ (k:Nat) (o:List Dot),i=.int .i64 k/\k<=l.length/\(l.take k).foldl (fun o d=>jJ d o) []=o/\wr.ownsRow w.heap.size 76 3 u o.length (aI o)/\o.length<=k/\Below w.heap.size w wr) (fun _ i _=>l.length - (intOf i).toNat)
 case atStart=>exact ⟨0,[],rfl,Nat.zero_le _,rfl,hown0,Nat.zero_le _,hbM⟩
 case round =>
  obtain ⟨k,o,rfl,hk,hP0,hown,hol,hbw⟩:=hrel;have HP:=aa hP0;clear hP0 hown0 hbM;by_cases hlt:k<l.length
  ·obtain ⟨A,off,rfl,D0,D1,D2⟩:∃ A off,a=some ⟨A,off,none⟩/\wr.cell? ⟨A,off+k * 3,none⟩=some (.int .i64 l[k].a.dev)/\wr.cell? ⟨A,off+k * 3+1,none⟩=some (.int .i64 l[k].a.inc)/\wr.cell? ⟨A,off+k * 3+2,none⟩=some (.int .i64 l[k].seq):=by
        rcases h.kept hbw with h | ⟨A,off,h1,h2⟩
        ·exact z135
        ·exact ⟨A,off,h1,h2.dev k hlt,h2.inc k hlt,h2.seq k hlt⟩
   have HT:Hid ((l.take (k+1)).foldl (fun o d=>jJ d o) []=jJ l[k] ((l.take k).foldl (fun o d=>jJ d o) [])):=by
        unfold Hid;rw [List.take_add_one,List.getElem?_eq_getElem hlt,List.foldl_append];rfl
   have HLT:=aa hlt;have hkl:k<=1048576:=by omega
   generalize l[k]=d at *;obtain ⟨aO,cO,rfl,WC,hcO⟩:=dE hown;have HOW:=aa hown;have HOL:=aa hol;have Yq:o.length<=1048576:=by omega
   have HBo:=aa hbw;have hzo:=hbw.size;obtain ⟨wo,rfl⟩:∃ wo:World,wo=wr:=⟨_,rfl⟩;clear hown hbw hol;go_wp2;go_loopw [5] (fun j wq=>∃ q:Nat,j=.int .i64 q/\q<=o.length/\fP o d=q+fP (o.drop q) d/\Below wo.heap.size wo wq) (fun j _=>o.length - (intOf j).toNat)
   case atStart=>exact ⟨0,rfl,Nat.zero_le _,by simp,bb _ _⟩
   case round =>
        obtain ⟨q,rfl,hq,hA0,hB⟩:=hrel;have HA:=aa hA0;clear hA0;by_cases hqt:q<o.length
        ·obtain ⟨AO,ofO,rfl,F0,F1,F2⟩:=Lm WC hqt
         have HY:=aa (fun (h:bV o[q] d=true)=>LU hqt h);have HN:=aa (fun (h:bV o[q] d=false)=>PI hqt h);have HG:=aa (List.getElem?_eq_getElem hqt);have HR1:=fun (X:World)=>HR.out o[q] d X;have hEq:=fun (W:World)=>EQ W 9997 o[q] d;have hm:=lw;have HQT:=aa hqt;have hqb:((q:Int) == (o.length:Int))=false:=beq_eq_false_iff_ne.2 (by omega);generalize o[q]=y at *
         cases hly:bV y d with
         | true =>
           rw [hly] at HR1;have HA2:Hid (fP o d=q+1+fP (o.drop (q+1)) d):=by unfold Hid;rw [HA.out,HY.out hly];omega
           clear hly;go_upto_region 6 with fail
           refine aH (by kernel_rfl) (by kernel_rfl) (fun WA hWA=>?_);have hbA:Below wr.heap.size wr WA:=by rw [hWA.out];go_grown
           have hBA:Below wo.heap.size wo WA:=hB.trans (hbA.mono hB.size);have pD0:∀ i:After WA,i.w.cell? ⟨A,off+k * 3,none⟩=some (.int .i64 d.a.dev):=fun i=>i.cell (kept hBA D0);have pD1:∀ i:After WA,i.w.cell? ⟨A,off+k * 3+1,none⟩=some (.int .i64 d.a.inc):=fun i=>i.cell (kept hBA D1);have pD2:∀ i:After WA,i.w.cell? ⟨A,off+k * 3+2,none⟩=some (.int .i64 d.seq):=fun i=>i.cell (kept hBA D2);have pF0:∀ i:After WA,i.w.cell? ⟨AO,ofO+q * 3,none⟩=some (.int .i64 y.a.dev):=fun i=>i.cell (kept hBA F0);have pF1:∀ i:After WA,i.w.cell? ⟨AO,ofO+q * 3+1,none⟩=some (.int .i64 y.a.inc):=fun i=>i.cell (kept hBA F1);have pF2:∀ i:After WA,i.w.cell? ⟨AO,ofO+q * 3+2,none⟩=some (.int .i64 y.seq):=fun i=>i.cell (kept hBA F2);clear hWA hBA;iterate 13 go_big_quiet_step (fail)
           go_big_quiet_step (exact Calls.after (HR1 _))
           go_big_quiet_step (fail)
           refine wpQuiet_nil ?_;rintro _ ⟨i,rfl⟩;have hiA:=i.h;generalize i.w=wp at hiA ⊢;have hbY:Below wr.heap.size wr wp:=below2 hbA hiA;replace hB:=hB.trans (hbY.mono hB.size);clear hbA hiA hbY pD0 pD1 pD2 pF0 pF1 pF2;have HB2:=aa hB;clear hB;go_wp2;go_roundw
           case rel=>exact ⟨q+1,by go_num,HQT.out,HA2.out,HB2.out⟩
           case measure=>have:=HQT.out;simp [intOf] <;> omega
         | false =>
           rw [hly] at HR1;have HA2:Hid (fP o d=q):=by unfold Hid;rw [HA.out,HN.out hly];omega
           clear hly;go_upto_region 6 with fail
           refine aH (by kernel_rfl) (by kernel_rfl) (fun WA hWA=>?_);have hbA:Below wr.heap.size wr WA:=by rw [hWA.out];go_grown
           have hBA:Below wo.heap.size wo WA:=hB.trans (hbA.mono hB.size);have pD0:∀ i:After WA,i.w.cell? ⟨A,off+k * 3,none⟩=some (.int .i64 d.a.dev):=fun i=>i.cell (kept hBA D0);have pD1:∀ i:After WA,i.w.cell? ⟨A,off+k * 3+1,none⟩=some (.int .i64 d.a.inc):=fun i=>i.cell (kept hBA D1);have pD2:∀ i:After WA,i.w.cell? ⟨A,off+k * 3+2,none⟩=some (.int .i64 d.seq):=fun i=>i.cell (kept hBA D2);have pF0:∀ i:After WA,i.w.cell? ⟨AO,ofO+q * 3,none⟩=some (.int .i64 y.a.dev):=fun i=>i.cell (kept hBA F0);have pF1:∀ i:After WA,i.w.cell? ⟨AO,ofO+q * 3+1,none⟩=some (.int .i64 y.a.inc):=fun i=>i.cell (kept hBA F1);have pF2:∀ i:After WA,i.w.cell? ⟨AO,ofO+q * 3+2,none⟩=some (.int .i64 y.seq):=fun i=>i.cell (kept hBA F2);clear hWA hBA;iterate 13 go_big_quiet_step (fail)
           go_big_quiet_step (exact Calls.after (HR1 _))
           go_big_quiet_step (fail)
           refine wpQuiet_nil ?_;rintro _ ⟨i,rfl⟩;have hiA:=i.h;generalize i.w=wp at hiA ⊢;have hbY:Below wr.heap.size wr wp:=below2 hbA hiA;replace hB:=hB.trans (hbY.mono hB.size);clear hbA hiA hbY pD0 pD1 pD2 pF0 pF1 pF2;by_cases he:y=d
           ·rw [aR he] at hEq
            have HI:Hid (jJ d o=o):=EF d o (by rw [HA2.out,HG.out,he]);clear he;go_upto_region 8 with fail
            refine y22 ?_
            intro WA hWA hbA
            refine y10 ?_
            intro hBA pD0 pD1 pD2
            refine y31 ?_
            clear hWA hBA
            intro pF0 pF1 pF2
            rintro _ ⟨i,rfl⟩;have hiA:=i.h;generalize i.w=wx at hiA ⊢;have hbY:Below wp.heap.size wp wx:=below2 hbA hiA;replace hB:=hB.trans (hbY.mono hB.size);clear hbA hiA hbY pD0 pD1 pD2 pF0 pF1 pF2;have HZ:=aa (a7 (ownsRow_below HOW.out hB) (HBo.out.trans (hB.mono hzo)));clear hB;go_wp2;go_roundw
            case rel=>exact ⟨k+1,o,by go_num,HLT.out,by rw [HT.out,HP.out,HI.out],HZ.out.1,Nat.le_succ_of_le HOL.out,HZ.out.2⟩
            case measure => exact z64
           ·rw [aM he] at hEq
            have HI:Hid (jJ d o=o.take q++d :: o.drop q):=by
             have:=BZ d o (fun x hx=>by rw [HA2.out,HG.out] at hx;cases hx;exact he);rwa [HA2.out] at this
            clear he;go_upto_region 8 with fail
            refine y22 ?_
            intro WA hWA hbA
            refine y10 ?_
            intro hBA pD0 pD1 pD2
            refine y31 ?_
            clear hWA hBA
            intro pF0 pF1 pF2
            rintro _ ⟨i,rfl⟩;have hiA:=i.h;generalize i.w=wx at hiA ⊢;have hbY:Below wp.heap.size wp wx:=below2 hbA hiA;replace hB:=hB.trans (hbY.mono hB.size);clear hbA hiA hbY pD0 pD1 pD2 pF0 pF1 pF2;go_upto_region 9 with fail
            refine y78 ?_
            intro W hW hbW hBW mJ hzW
            have hcut:∀ X,(Instr.sliceAt 44 (.slice (some ⟨AO,ofO,none⟩) o.length cO) none (some (.int .i64 (q:Nat))) none).run prog X=.ok (.slice (some ⟨AO,ofO,none⟩) q cO) X:=fun X=>lu X _ _ i0 (some ⟨AO,ofO,none⟩) o.length cO .i64 q underlying44 hi (by omega);have mX:∀ X,(Instr.sliceAt 44 (.slice (some ⟨AO,ofO,none⟩) o.length cO) (some (.int .i64 (q:Nat))) none none).run prog X=.ok (.slice (l9 (some ⟨AO,ofO,none⟩) cO q 3) (o.length - q) (cO - q)) X:=fun X=>jY X _ _ i0 (some ⟨AO,ofO,none⟩) o.length cO .i64 q 3 underlying44 hi hz1 (by omega);have hR1:∀ X,Below W.drew.heap.size W.drew X->CellsIn X (some ⟨AO,ofO,none⟩) (aI (o.take q)):=fun X h=>by rw [<- qE];exact (mJ.kept h).take _
            have hR2:∀ X,Below W.drew.heap.size W.drew X->CellsIn X (l9 (some ⟨AO,ofO,none⟩) cO q 3) (aI (o.drop q)):=fun X h=>by rw [<- qF];exact (mJ.kept h).cut (dO o) hcO q
            refine y27 ?_
            clear hW
            intro l1 l2 hF hHeld
            refine tH (v:=?_) 1 46 rfl (a8 ⟨by rfl,?_⟩) ?_
            case refine_2 => exact z61
            try simp only [pS]
            refine tH (v:=?_) 2 47 rfl (a8 ⟨by rfl,?_⟩) ?_
            case refine_2 => exact z61
            try simp only [pS]
            refine tH 3 48 rfl (a8 ⟨by rfl,fun W hSW=>gq _ _ _ _ _ rfl _ (hcut W)⟩) ?_;try simp only [pS]
            refine tH (v:=?_) 5 50 rfl (a8 ⟨by rfl,?_⟩) ?_
            case refine_2 => exact z61
            try simp only [pS]
            refine tH (v:=?_) 6 51 rfl (a8 ⟨by rfl,?_⟩) ?_
            case refine_2 => exact z61
            try simp only [pS]
            refine tH (v:=?_) 7 52 rfl (a8 ⟨by rfl,?_⟩) ?_
            case refine_2 => exact z61
            refine y50 ?_
            refine tH (v:=?_) 11 56 rfl (a8 ⟨by rfl,?_⟩) ?_
            case refine_2 => exact z61
            try simp only [pS]
            refine tH (v:=?_) 12 57 rfl (a8 ⟨by rfl,?_⟩) ?_
            case refine_2 => exact z61
            refine y53 ?_
            refine AllReadyH.cons (o:=⟨some 45,_,_,_,_,_⟩) rfl (fun K hK=>?_) (AllReadyH.cons (o:=⟨some 54,_,_,_,_,_⟩) rfl (fun K hK=>?_) AllReadyH.nil);focus
             refine dh (by rfl) 44 76 rfl i0 _ 3 underlying44 hi hz0 hz1 (by decide) ?_;intro v0 X0 hown0 hbel0;refine hK.out _ _ ?_ (fun ag=>?_)
             ·exact z72
             clear hK K hHeld;have hHeld:=ag;clear ag;try simp only [pS]
             refine wpAnyH_ready (rs:=[4,9]) (by kernel_rfl) (by simp) ?_;refine AllReadyH.cons (o:=⟨some 49,_,_,_,_,_⟩) rfl (fun K hK=>?_) (AllReadyH.cons (o:=⟨some 54,_,_,_,_,_⟩) rfl (fun K hK=>?_) AllReadyH.nil);focus
                refine aj (by rfl) (.tmp 45) (.tmp 48) 44 rfl W.drew.heap.size 76 i0 _ 3 24 underlying44 hi hz0 hz1 hz2 rfl (by decide) _ 0 _ rfl hown0 (some ⟨AO,ofO,none⟩) q cO (aI (o.take q)) rfl l1 (hR1 _ hHeld) (dm _) (by first | omega | (unfold maxLen;omega)) (by first | omega | (unfold maxLen;omega)) hHeld.size ?_;intro v1 X1 hown1 hg1;refine hK.out _ _ ?_ (fun ag=>?_)
                ·exact z34
                clear hK K hHeld;have hHeld:=ag;clear ag;try simp only [pS]
                refine rH 9 54 rfl fun K hK=>?_;refine bH (by rfl) 44 76 _ rfl #[.int .i64 d.a.dev,.int .i64 d.a.inc,.int .i64 d.seq] 3 rfl rfl (by decide) (by decide) underlying44 (by kernel_rfl) (by kernel_rfl) ?_;refine hK.out _ _ ?_ (fun ag=>?_)
                ·exact z71
                clear hK K hHeld;have hHeld:=ag;clear ag;try simp only [pS]
                have hN:=(fun X=>jh X d) X1;refine rH 10 55 rfl fun K hK=>?_;refine aj (by rfl) (.tmp 49) (.tmp 54) 44 rfl W.drew.heap.size 76 i0 _ 3 24 underlying44 hi hz0 hz1 hz2 rfl (by decide) _ (0+q) _ rfl (hown1.alloc _) (some ⟨X1.heap.size,0,none⟩) 1 1 [.int .i64 d.a.dev,.int .i64 d.a.inc,.int .i64 d.seq] rfl rfl hN (dm [d]) (by first | omega | (unfold maxLen;omega)) (by first | omega | (unfold maxLen;omega)) hHeld.size ?_;intro v2 X2 hown2 hg2;refine hK.out _ _ ?_ (fun ag=>?_)
                ·exact z35
                clear hK K hHeld;have hHeld:=ag;clear ag;try simp only [pS]
             rotate_left 1;focus
                refine bH (by rfl) 44 76 _ rfl #[.int .i64 d.a.dev,.int .i64 d.a.inc,.int .i64 d.seq] 3 rfl rfl (by decide) (by decide) underlying44 (by kernel_rfl) (by kernel_rfl) ?_;refine hK.out _ _ ?_ (fun ag=>?_)
                ·exact z71
                clear hK K hHeld;have hHeld:=ag;clear ag;try simp only [pS]
                have hN:=(fun X=>jh X d) X0;refine rH 4 49 rfl fun K hK=>?_;refine aj (by rfl) (.tmp 45) (.tmp 48) 44 rfl W.drew.heap.size 76 i0 _ 3 24 underlying44 hi hz0 hz1 hz2 rfl (by decide) _ 0 _ rfl (hown0.alloc _) (some ⟨AO,ofO,none⟩) q cO (aI (o.take q)) rfl l1 (hR1 _ hHeld) (dm _) (by first | omega | (unfold maxLen;omega)) (by first | omega | (unfold maxLen;omega)) hHeld.size ?_;intro v1 X1 hown1 hg1;refine hK.out _ _ ?_ (fun ag=>?_)
                ·exact z34
                clear hK K hHeld;have hHeld:=ag;clear ag;try simp only [pS]
                replace hN:=hN.grown hg1 (fun q hq e=>by have:=(hown0.lt _ e).2;simp only [Option.some.injEq] at hq;subst hq;simp only at this;omega);refine rH 10 55 rfl fun K hK=>?_;refine aj (by rfl) (.tmp 49) (.tmp 54) 44 rfl W.drew.heap.size 76 i0 _ 3 24 underlying44 hi hz0 hz1 hz2 rfl (by decide) _ (0+q) _ rfl hown1 (some ⟨X0.heap.size,0,none⟩) 1 1 [.int .i64 d.a.dev,.int .i64 d.a.inc,.int .i64 d.seq] rfl rfl hN (dm [d]) (by first | omega | (unfold maxLen;omega)) (by first | omega | (unfold maxLen;omega)) hHeld.size ?_;intro v2 X2 hown2 hg2;refine hK.out _ _ ?_ (fun ag=>?_)
                ·exact z35
                clear hK K hHeld;have hHeld:=ag;clear ag;try simp only [pS]
            rotate_left 2;focus
             refine bH (by rfl) 44 76 _ rfl #[.int .i64 d.a.dev,.int .i64 d.a.inc,.int .i64 d.seq] 3 rfl rfl (by decide) (by decide) underlying44 (by kernel_rfl) (by kernel_rfl) ?_;refine hK.out _ _ ?_ (fun ag=>?_)
             ·exact z71
             clear hK K hHeld;have hHeld:=ag;clear ag;try simp only [pS]
             have hN:=(fun X=>jh X d) W.drew;refine rH 0 45 rfl fun K hK=>?_;refine dh (by rfl) 44 76 rfl i0 _ 3 underlying44 hi hz0 hz1 (by decide) ?_;intro v0 X0 hown0 hbel0;refine hK.out _ _ ?_ (fun ag=>?_)
             ·exact z72
             clear hK K hHeld;have hHeld:=ag;clear ag;try simp only [pS]
             replace hN:=hN.kept hbel0;have rM:=hown0;replace hown0:=own_base hown0 (b2:=W.drew.heap.size) (by first | exact aq _ | simp);refine rH 4 49 rfl fun K hK=>?_;refine aj (by rfl) (.tmp 45) (.tmp 48) 44 rfl W.drew.heap.size 76 i0 _ 3 24 underlying44 hi hz0 hz1 hz2 rfl (by decide) _ 0 _ rfl hown0 (some ⟨AO,ofO,none⟩) q cO (aI (o.take q)) rfl l1 (hR1 _ hHeld) (dm _) (by first | omega | (unfold maxLen;omega)) (by first | omega | (unfold maxLen;omega)) hHeld.size ?_;intro v1 X1 hown1 hg1;refine hK.out _ _ ?_ (fun ag=>?_)
             ·exact z34
             clear hK K hHeld;have hHeld:=ag;clear ag;try simp only [pS]
             replace hN:=hN.grown hg1 (fun q hq e=>by have:=(rM.lt _ e).1;simp only [Option.some.injEq] at hq;subst hq;simp at this;omega);refine rH 10 55 rfl fun K hK=>?_;refine aj (by rfl) (.tmp 49) (.tmp 54) 44 rfl W.drew.heap.size 76 i0 _ 3 24 underlying44 hi hz0 hz1 hz2 rfl (by decide) _ (0+q) _ rfl hown1 (some ⟨W.drew.heap.size,0,none⟩) 1 1 [.int .i64 d.a.dev,.int .i64 d.a.inc,.int .i64 d.seq] rfl rfl hN (dm [d]) (by first | omega | (unfold maxLen;omega)) (by first | omega | (unfold maxLen;omega)) hHeld.size ?_;intro v2 X2 hown2 hg2;refine hK.out _ _ ?_ (fun ag=>?_)
             ·exact z35
             clear hK K hHeld;have hHeld:=ag;clear ag;try simp only [pS]
            all_goals
             refine rH 14 59 rfl fun K hK=>?_;refine aj (by rfl) (.tmp 55) (.tmp 58) 44 rfl W.drew.heap.size 76 i0 _ 3 24 underlying44 hi hz0 hz1 hz2 rfl (by decide) _ (0+q+1) _ rfl hown2 (l9 (some ⟨AO,ofO,none⟩) cO q 3) (o.length - q) (cO - q) (aI (o.drop q)) rfl l2 (hR2 _ hHeld) (dm _) (by first | omega | (unfold maxLen;omega)) (by first | omega | (unfold maxLen;omega)) hHeld.size ?_;intro v3 X3 hown3 hg3;refine hK.out _ _ ?_ (fun ag=>?_)
             ·exact z87
             clear hK K hHeld;have hHeld:=ag;clear ag;try simp only [pS]
             refine tH (v:=?_) 15 3 rfl (a8 ⟨by rfl,?_⟩) ?_
             case refine_2 => exact z61
             try simp only [pS]
             refine wpAnyH_done (by kernel_rfl) ?_ _;refine NoPanic.normal ?_;have e1:[]++aI (o.take q)++[.int .i64 d.a.dev,.int .i64 d.a.inc,.int .i64 d.seq]++aI (o.drop q)=aI (jJ d o):=by rw [HI.out,sH,xh];simp [List.append_assoc]
             have e2:0+q+1+(o.length - q)=(jJ d o).length:=by rw [HI.out,ar,List.length_cons,List.length_take,List.length_drop,Nat.min_eq_left hq];omega
             rw [e1,e2] at hown3;have e3:(jJ d o).length=o.length+1:=by rw [<- e2];omega
             have HZ:=aa (a7 (fE hown3 (Nat.le_trans hzo hzW)) (HBo.out.trans ((hBW.trans (hHeld.mono hzW)).mono hzo)));have HL2:=aa e3;clear e1 e2 e3 hR1 hR2 l1 l2 hF hcut mX hown3 hHeld mJ hBW hbW;go_wp2;go_roundw
             case rel=>exact ⟨k+1,_,by go_num,HLT.out,by rw [HT.out,HP.out],HZ.out.1,by rw [HL2.out];have:=HOL.out;omega,HZ.out.2⟩
             case measure => exact z64
        ·have HI:Hid (jJ d o=o.take q++d :: o.drop q):=by
          have e:fP o d=q:=by rw [HA.out,List.drop_eq_nil_of_le (by omega)];rfl
          have:=BZ d o (fun x hx=>by rw [e,List.getElem?_eq_none (by omega)] at hx;cases hx);rwa [e] at this
         obtain hqe:q=o.length:=by omega
         have hqd:decide (q<o.length)=false:=aM hqt;have hqi:decide ((q:Int)<(o.length:Int))=false:=aM (by omega);have hqb:((q:Int) == (o.length:Int))=true:=beq_iff_eq.2 (by omega);clear hqe;go_upto_region 6 with fail
         refine y62 ?_
         intro WA hWA hbA
         refine y10 ?_
         intro hBA pD0 pD1 pD2
         clear hWA hBA
         iterate 15 go_big_quiet_step (fail)
         refine wpQuiet_nil ?_;rintro _ ⟨i,rfl⟩;have hiA:=i.h;generalize i.w=wp at hiA ⊢;have hbY:Below wr.heap.size wr wp:=below2 hbA hiA;replace hB:=hB.trans (hbY.mono hB.size);clear hbA hiA hbY pD0 pD1 pD2;go_upto_region 8 with fail
         refine y22 ?_
         intro WA hWA hbA
         refine y10 ?_
         intro hBA pD0 pD1 pD2
         clear hWA hBA
         iterate 15 go_big_quiet_step (fail)
         refine wpQuiet_nil ?_;rintro _ ⟨i,rfl⟩;have hiA:=i.h;generalize i.w=wx at hiA ⊢;have hbY:Below wp.heap.size wp wx:=below2 hbA hiA;replace hB:=hB.trans (hbY.mono hB.size);clear hbA hiA hbY pD0 pD1 pD2;go_upto_region 9 with fail
         refine y78 ?_
         intro W hW hbW hBW mJ hzW
         have hcut:∀ X,(Instr.sliceAt 44 (.slice aO o.length cO) none (some (.int .i64 (q:Nat))) none).run prog X=.ok (.slice aO q cO) X:=fun X=>lu X _ _ i0 aO o.length cO .i64 q underlying44 hi (by omega);have mX:∀ X,(Instr.sliceAt 44 (.slice aO o.length cO) (some (.int .i64 (q:Nat))) none none).run prog X=.ok (.slice (l9 aO cO q 3) (o.length - q) (cO - q)) X:=fun X=>jY X _ _ i0 aO o.length cO .i64 q 3 underlying44 hi hz1 (by omega);have hR1:∀ X,Below W.drew.heap.size W.drew X->CellsIn X aO (aI (o.take q)):=fun X h=>by rw [<- qE];exact (mJ.kept h).take _
         have hR2:∀ X,Below W.drew.heap.size W.drew X->CellsIn X (l9 aO cO q 3) (aI (o.drop q)):=fun X h=>by rw [<- qF];exact (mJ.kept h).cut (dO o) hcO q
         refine y27 ?_
         clear hW
         intro l1 l2 hF hHeld
         refine tH (v:=?_) 1 46 rfl (a8 ⟨by rfl,?_⟩) ?_
         case refine_2 => exact z61
         try simp only [pS]
         refine tH (v:=?_) 2 47 rfl (a8 ⟨by rfl,?_⟩) ?_
         case refine_2 => exact z61
         try simp only [pS]
         refine tH 3 48 rfl (a8 ⟨by rfl,fun W hSW=>gq _ _ _ _ _ rfl _ (hcut W)⟩) ?_;try simp only [pS]
         refine tH (v:=?_) 5 50 rfl (a8 ⟨by rfl,?_⟩) ?_
         case refine_2 => exact z61
         try simp only [pS]
         refine tH (v:=?_) 6 51 rfl (a8 ⟨by rfl,?_⟩) ?_
         case refine_2 => exact z61
         try simp only [pS]
         refine tH (v:=?_) 7 52 rfl (a8 ⟨by rfl,?_⟩) ?_
         case refine_2 => exact z61
         refine y50 ?_
         refine tH (v:=?_) 11 56 rfl (a8 ⟨by rfl,?_⟩) ?_
         case refine_2 => exact z61
         try simp only [pS]
         refine tH (v:=?_) 12 57 rfl (a8 ⟨by rfl,?_⟩) ?_
         case refine_2 => exact z61
         refine y53 ?_
         refine AllReadyH.cons (o:=⟨some 45,_,_,_,_,_⟩) rfl (fun K hK=>?_) (AllReadyH.cons (o:=⟨some 54,_,_,_,_,_⟩) rfl (fun K hK=>?_) AllReadyH.nil);focus
          refine dh (by rfl) 44 76 rfl i0 _ 3 underlying44 hi hz0 hz1 (by decide) ?_;intro v0 X0 hown0 hbel0;refine hK.out _ _ ?_ (fun ag=>?_)
          ·exact z72
          clear hK K hHeld;have hHeld:=ag;clear ag;try simp only [pS]
          refine wpAnyH_ready (rs:=[4,9]) (by kernel_rfl) (by simp) ?_;refine AllReadyH.cons (o:=⟨some 49,_,_,_,_,_⟩) rfl (fun K hK=>?_) (AllReadyH.cons (o:=⟨some 54,_,_,_,_,_⟩) rfl (fun K hK=>?_) AllReadyH.nil);focus
           refine aj (by rfl) (.tmp 45) (.tmp 48) 44 rfl W.drew.heap.size 76 i0 _ 3 24 underlying44 hi hz0 hz1 hz2 rfl (by decide) _ 0 _ rfl hown0 aO q cO (aI (o.take q)) rfl l1 (hR1 _ hHeld) (dm _) (by first | omega | (unfold maxLen;omega)) (by first | omega | (unfold maxLen;omega)) hHeld.size ?_;intro v1 X1 hown1 hg1;refine hK.out _ _ ?_ (fun ag=>?_)
           ·exact z34
           clear hK K hHeld;have hHeld:=ag;clear ag;try simp only [pS]
           refine rH 9 54 rfl fun K hK=>?_;refine bH (by rfl) 44 76 _ rfl #[.int .i64 d.a.dev,.int .i64 d.a.inc,.int .i64 d.seq] 3 rfl rfl (by decide) (by decide) underlying44 (by kernel_rfl) (by kernel_rfl) ?_;refine hK.out _ _ ?_ (fun ag=>?_)
           ·exact z71
           clear hK K hHeld;have hHeld:=ag;clear ag;try simp only [pS]
           have hN:=(fun X=>jh X d) X1;refine rH 10 55 rfl fun K hK=>?_;refine aj (by rfl) (.tmp 49) (.tmp 54) 44 rfl W.drew.heap.size 76 i0 _ 3 24 underlying44 hi hz0 hz1 hz2 rfl (by decide) _ (0+q) _ rfl (hown1.alloc _) (some ⟨X1.heap.size,0,none⟩) 1 1 [.int .i64 d.a.dev,.int .i64 d.a.inc,.int .i64 d.seq] rfl rfl hN (dm [d]) (by first | omega | (unfold maxLen;omega)) (by first | omega | (unfold maxLen;omega)) hHeld.size ?_;intro v2 X2 hown2 hg2;refine hK.out _ _ ?_ (fun ag=>?_)
           ·exact z35
           clear hK K hHeld;have hHeld:=ag;clear ag;try simp only [pS]
          rotate_left 1;focus
           refine bH (by rfl) 44 76 _ rfl #[.int .i64 d.a.dev,.int .i64 d.a.inc,.int .i64 d.seq] 3 rfl rfl (by decide) (by decide) underlying44 (by kernel_rfl) (by kernel_rfl) ?_;refine hK.out _ _ ?_ (fun ag=>?_)
           ·exact z71
           clear hK K hHeld;have hHeld:=ag;clear ag;try simp only [pS]
           have hN:=(fun X=>jh X d) X0;refine rH 4 49 rfl fun K hK=>?_;refine aj (by rfl) (.tmp 45) (.tmp 48) 44 rfl W.drew.heap.size 76 i0 _ 3 24 underlying44 hi hz0 hz1 hz2 rfl (by decide) _ 0 _ rfl (hown0.alloc _) aO q cO (aI (o.take q)) rfl l1 (hR1 _ hHeld) (dm _) (by first | omega | (unfold maxLen;omega)) (by first | omega | (unfold maxLen;omega)) hHeld.size ?_;intro v1 X1 hown1 hg1;refine hK.out _ _ ?_ (fun ag=>?_)
           ·exact z34
           clear hK K hHeld;have hHeld:=ag;clear ag;try simp only [pS]
           replace hN:=hN.grown hg1 (fun q hq e=>by have:=(hown0.lt _ e).2;simp only [Option.some.injEq] at hq;subst hq;simp only at this;omega);refine rH 10 55 rfl fun K hK=>?_;refine aj (by rfl) (.tmp 49) (.tmp 54) 44 rfl W.drew.heap.size 76 i0 _ 3 24 underlying44 hi hz0 hz1 hz2 rfl (by decide) _ (0+q) _ rfl hown1 (some ⟨X0.heap.size,0,none⟩) 1 1 [.int .i64 d.a.dev,.int .i64 d.a.inc,.int .i64 d.seq] rfl rfl hN (dm [d]) (by first | omega | (unfold maxLen;omega)) (by first | omega | (unfold maxLen;omega)) hHeld.size ?_;intro v2 X2 hown2 hg2;refine hK.out _ _ ?_ (fun ag=>?_)
           ·exact z35
           clear hK K hHeld;have hHeld:=ag;clear ag;try simp only [pS]
         rotate_left 2;focus
          refine bH (by rfl) 44 76 _ rfl #[.int .i64 d.a.dev,.int .i64 d.a.inc,.int .i64 d.seq] 3 rfl rfl (by decide) (by decide) underlying44 (by kernel_rfl) (by kernel_rfl) ?_;refine hK.out _ _ ?_ (fun ag=>?_)
          ·exact z71
          clear hK K hHeld;have hHeld:=ag;clear ag;try simp only [pS]
          have hN:=(fun X=>jh X d) W.drew;refine rH 0 45 rfl fun K hK=>?_;refine dh (by rfl) 44 76 rfl i0 _ 3 underlying44 hi hz0 hz1 (by decide) ?_;intro v0 X0 hown0 hbel0;refine hK.out _ _ ?_ (fun ag=>?_)
          ·exact z72
          clear hK K hHeld;have hHeld:=ag;clear ag;try simp only [pS]
          replace hN:=hN.kept hbel0;have rM:=hown0;replace hown0:=own_base hown0 (b2:=W.drew.heap.size) (by first | exact aq _ | simp);refine rH 4 49 rfl fun K hK=>?_;refine aj (by rfl) (.tmp 45) (.tmp 48) 44 rfl W.drew.heap.size 76 i0 _ 3 24 underlying44 hi hz0 hz1 hz2 rfl (by decide) _ 0 _ rfl hown0 aO q cO (aI (o.take q)) rfl l1 (hR1 _ hHeld) (dm _) (by first | omega | (unfold maxLen;omega)) (by first | omega | (unfold maxLen;omega)) hHeld.size ?_;intro v1 X1 hown1 hg1;refine hK.out _ _ ?_ (fun ag=>?_)
          ·exact z34
          clear hK K hHeld;have hHeld:=ag;clear ag;try simp only [pS]
          replace hN:=hN.grown hg1 (fun q hq e=>by have:=(rM.lt _ e).1;simp only [Option.some.injEq] at hq;subst hq;simp at this;omega);refine rH 10 55 rfl fun K hK=>?_;refine aj (by rfl) (.tmp 49) (.tmp 54) 44 rfl W.drew.heap.size 76 i0 _ 3 24 underlying44 hi hz0 hz1 hz2 rfl (by decide) _ (0+q) _ rfl hown1 (some ⟨W.drew.heap.size,0,none⟩) 1 1 [.int .i64 d.a.dev,.int .i64 d.a.inc,.int .i64 d.seq] rfl rfl hN (dm [d]) (by first | omega | (unfold maxLen;omega)) (by first | omega | (unfold maxLen;omega)) hHeld.size ?_;intro v2 X2 hown2 hg2;refine hK.out _ _ ?_ (fun ag=>?_)
          ·exact z35
          clear hK K hHeld;have hHeld:=ag;clear ag;try simp only [pS]
         all_goals
          refine rH 14 59 rfl fun K hK=>?_;refine aj (by rfl) (.tmp 55) (.tmp 58) 44 rfl W.drew.heap.size 76 i0 _ 3 24 underlying44 hi hz0 hz1 hz2 rfl (by decide) _ (0+q+1) _ rfl hown2 (l9 aO cO q 3) (o.length - q) (cO - q) (aI (o.drop q)) rfl l2 (hR2 _ hHeld) (dm _) (by first | omega | (unfold maxLen;omega)) (by first | omega | (unfold maxLen;omega)) hHeld.size ?_;intro v3 X3 hown3 hg3;refine hK.out _ _ ?_ (fun ag=>?_)
          ·exact z87
          clear hK K hHeld;have hHeld:=ag;clear ag;try simp only [pS]
          refine tH (v:=?_) 15 3 rfl (a8 ⟨by rfl,?_⟩) ?_
          case refine_2 => exact z61
          try simp only [pS]
          refine wpAnyH_done (by kernel_rfl) ?_ _;refine NoPanic.normal ?_;have e1:[]++aI (o.take q)++[.int .i64 d.a.dev,.int .i64 d.a.inc,.int .i64 d.seq]++aI (o.drop q)=aI (jJ d o):=by rw [HI.out,sH,xh];simp [List.append_assoc]
          have e2:0+q+1+(o.length - q)=(jJ d o).length:=by rw [HI.out,ar,List.length_cons,List.length_take,List.length_drop,Nat.min_eq_left hq];omega
          rw [e1,e2] at hown3;have e3:(jJ d o).length=o.length+1:=by rw [<- e2];omega
          have HZ:=aa (a7 (fE hown3 (Nat.le_trans hzo hzW)) (HBo.out.trans ((hBW.trans (hHeld.mono hzW)).mono hzo)));have HL2:=aa e3;clear e1 e2 e3 hR1 hR2 l1 l2 hF hcut mX hown3 hHeld mJ hBW hbW;go_wp2;go_roundw
          case rel=>exact ⟨k+1,_,by go_num,HLT.out,by rw [HT.out,HP.out],HZ.out.1,by rw [HL2.out];have:=HOL.out;omega,HZ.out.2⟩
          case measure => exact z64
  ·obtain rfl:k=l.length:=by omega
   have HE:Hid (sortD l=o):=by unfold Hid sortD;rw [<- HP.out,List.take_length]
   go_wp2;go_ret;exact ⟨_,rfl,by rw [HE.out];exact hown,hbw⟩
def cZ (x:Actor) (n:Int) (st:List Dot×Bool) (d:Dot):List Dot×Bool :=
 ((if d.a=x then (if !st.2 && !bI d.a x then st.1++[⟨x,n⟩] else st.1) else (if !st.2 && !bI d.a x then st.1++[⟨x,n⟩] else st.1)++[d]),st.2 || !bI d.a x)
def jR (l:List Dot) (x:Actor) (n:Int):List Dot :=
 if (l.foldl (cZ x n) ([],false)).2=true then (l.foldl (cZ x n) ([],false)).1 else (l.foldl (cZ x n) ([],false)).1++[⟨x,n⟩]
theorem FH (x:Actor) (n:Int):∀ (l o:List Dot),(∀ d∈l,bI x d.a=true)->l.foldl (cZ x n) (o,true)=(o++l,true)
 | [],o,_=>by simp
 | d :: l,o,h=>by
   have h1:=h d List.mem_cons_self;have h2:d.a≠x:=fun e=>by rw [e,dw] at h1;cases h1
   rw [List.foldl_cons];have:cZ x n (o,true) d=(o++[d],true):=by simp [cZ,h2]
   rw [this,FH x n l _ (fun e he=>h e (List.mem_cons_of_mem _ he))];simp
theorem G8 (x:Actor) (n:Int):∀ (l o:List Dot),o7 l->(if (l.foldl (cZ x n) (o,false)).2=true then (l.foldl (cZ x n) (o,false)).1 else (l.foldl (cZ x n) (o,false)).1++[⟨x,n⟩])=o++setM l x n
 | [],o,_=>by simp [setM]
 | d :: l,o,h=>by
   obtain ⟨h1,h2⟩:=List.pairwise_cons.1 h;rw [List.foldl_cons];by_cases hx:d.a=x
   ·have hs:cZ x n (o,false) d=(o++[⟨x,n⟩],true):=by simp [cZ,hx,dw]
    rw [hs,FH x n l _ (fun e he=>by rw [<- hx];exact h1 e he),if_pos rfl];unfold setM;rw [if_pos hx];simp
   ·cases hl:bI d.a x with
    | true =>
      have hs:cZ x n (o,false) d=(o++[d],false):=by simp [cZ,hx,hl]
      rw [hs,G8 x n l _ h2];rw [show setM (d :: l) x n=d :: setM l x n from by rw [setM,if_neg hx,if_pos hl]];simp
    | false =>
      have hs:cZ x n (o,false) d=(o++[⟨x,n⟩]++[d],true):=by simp [cZ,hx,hl]
      have hg:=lL hx hl;rw [hs,FH x n l _ (fun e he=>jk hg (h1 e he)),if_pos rfl];unfold setM;rw [if_neg hx,if_neg (by rw [hl];decide)];simp
theorem sV {l:List Dot} (h:o7 l) (x:Actor) (n:Int):jR l x n=setM l x n:=by
 have:=G8 x n l [] h;unfold jR;rw [this];rfl
theorem Le {α β:Type} (f:β->α->β) (b:β) (l:List α) (k:Nat) (h:k<l.length):(l.take (k+1)).foldl f b=f ((l.take k).foldl f b) l[k]:=by
 rw [List.take_add_one,List.getElem?_eq_getElem h,List.foldl_append];rfl
theorem y40 {p q : Prop} (k : q) (h : PLift q -> p := by
 intro kk
 replace hB := (hB.trans (((bb wq.heap.size wq).alloc (aq _) (.cells #[.int .i64 d.a.dev, .int .i64 d.a.inc, .int .i64 d.seq] 202)).mono hB.size)).grown hgrow (by simp; omega) (fun j hj => (hown.lt j hj).1)
 revert hB
 exact kk.down) : p := h ⟨k⟩
theorem y39 {p q : Prop} (k : q) (h : PLift q -> p := by
 intro kk
 have hbY : Below wp.heap.size wp wq := below2 hbA hiA
 replace hown := ownsRow_below hown hbY
 replace hB := hB.trans (hbY.mono hB.size)
 clear hbY
 have hlO : (o).length <= 1073741826 := by (try simp only [ar, List.length_cons, List.length_nil]); omega
 have hzX := hB.size
 have c0 := kept hB C0
 have c1 := kept hB C1
 have e0 := kept hB E0
 have e1 := kept hB E1
 have e2 := kept hB E2
 revert hown hB hlO hzX c0 c1 e0 e1 e2
 exact kk.down) : p := h ⟨k⟩
theorem y3 {p q : Prop} (k : q) (h : PLift q -> p := by
 intro kk
 have hBA : Below W0.heap.size W0 WA := hB.trans (hbA.mono hB.size)
 have pc0 : ∀ i : After WA, i.w.cell? ⟨w.heap.size, 0, none⟩ = some (.int .i64 x.dev) := fun i => i.cell (kept hBA C0)
 have pc1 : ∀ i : After WA, i.w.cell? ⟨w.heap.size, 1, none⟩ = some (.int .i64 x.inc) := fun i => i.cell (kept hBA C1)
 have pe0 : ∀ i : After WA, i.w.cell? ⟨A, off + k * 3, none⟩ = some (.int .i64 d.a.dev) := fun i => i.cell (kept hBA E0)
 have pe1 : ∀ i : After WA, i.w.cell? ⟨A, off + k * 3 + 1, none⟩ = some (.int .i64 d.a.inc) := fun i => i.cell (kept hBA E1)
 have pe2 : ∀ i : After WA, i.w.cell? ⟨A, off + k * 3 + 2, none⟩ = some (.int .i64 d.seq) := fun i => i.cell (kept hBA E2)
 clear hBA
 iterate 7 go_big_quiet_step (fail)
 refine wpQuiet_nil ?_
 revert pc0 pc1 pe0 pe1 pe2
 exact kk.down) : p := h ⟨k⟩
theorem N9 (a:Option Addr) (cap:Nat) (l:List Dot) (x:Actor) (n:Int) (w:World) (hl:l.length<=268435456) (h:DotsIn w a l) :
 Calls prog 114 #[.slice a l.length cap,fA x,.int .i64 n] w fun e w'=>∃ v,e=.returned v/\w'.ownsRow w.heap.size 202 3 v (jR l x n).length (aI (jR l x n))/\Below w.heap.size w w':=by
 obtain ⟨i0,hi,hz0,hz1,hz2⟩:=info_parts Tryz.infoMark;have HR:=aa (fun (d:Dot) (X:World)=>Bd d.a x X);go_enter func114,ntmps114;go_wp2;have C0:(w.alloc (.cells #[.int .i64 x.dev,.int .i64 x.inc] 74)).cell? ⟨w.heap.size,0,none⟩=some (.int .i64 x.dev):=by go_simp
 have C1:(w.alloc (.cells #[.int .i64 x.dev,.int .i64 x.inc] 74)).cell? ⟨w.heap.size,1,none⟩=some (.int .i64 x.inc):=by go_simp
 have hb0:Below w.heap.size w (w.alloc (.cells #[.int .i64 x.dev,.int .i64 x.inc] 74)):=(bb _ _).alloc (aq _) _;have hz0':w.heap.size+1=(w.alloc (.cells #[.int .i64 x.dev,.int .i64 x.inc] 74)).heap.size:=by simp
 have h0:=h.kept hb0;generalize (w.alloc (.cells #[.int .i64 x.dev,.int .i64 x.inc] 74))=W0 at *;have hown0:(W0.alloc (Obj.cells #[] 202)).ownsRow W0.heap.size 202 3 (.slice (some ⟨W0.heap.size,0,none⟩) 0 0) 0 []:=World.ownsRow_made _ _ _ (aq _) (by decide) rfl;have hbM:Below W0.heap.size W0 (W0.alloc (Obj.cells #[] 202)):=(bb _ _).alloc (aq _) _;have HZ0:=aa hz0';have hlow:w.heap.size<=W0.heap.size:=hb0.size;clear h hz0';go_loopw [7,8,9] (fun u b i wr=>∃ (k:Nat) (o:List Dot) (t:Bool),i=.int .i64 k/\k<=l.length/\b=.bool t/\(l.take k).foldl (cZ x n) ([],false)=(o,t)/\wr.ownsRow W0.heap.size 202 3 u o.length (aI o)/\o.length<=2 * k/\Below W0.heap.size W0 wr) (fun _ _ i _=>l.length - (intOf i).toNat)
 case atStart=>exact ⟨0,[],false,rfl,Nat.zero_le _,rfl,rfl,by rw [HZ0.out];exact hown0,Nat.zero_le _,hbM⟩
 case round =>
  obtain ⟨k,o,t,rfl,hk,rfl,hP0,hown,hol,hB⟩:=hrel;have HP:=aa hP0;clear hP0;by_cases hlt:k<l.length
  ·obtain ⟨A,off,rfl,hda⟩:∃ A off,a=some ⟨A,off,none⟩/\DotsAt W0 A off l:=by
        rcases h0 with h | ⟨A,off,h1,h2⟩
        ·exact z135
        ·exact ⟨A,off,h1,h2⟩
   have E0:=hda.dev k hlt;have E1:=hda.inc k hlt;have E2:=hda.seq k hlt;have HT:Hid ((l.take (k+1)).foldl (cZ x n) ([],false)=cZ x n (o,t) l[k]):=by unfold Hid;rw [Le _ _ _ _ hlt,HP.out]
   have HLT:=aa hlt;have HR1:=fun (X:World)=>HR.out l[k] X;have hEq:=fun (W:World)=>tX W 9998 l[k].a x;have hm:=kP;have hkl:k<=268435456:=by omega
   generalize l[k]=d at *;clear hda;have HO:=aa hol;clear hlt
   cases t with
   | true =>
     have HA:Hid (True):=trivial;go_upto_region 6 with fail
     refine aH (by kernel_rfl) (by kernel_rfl) (fun WA hWA=>?_);have hbA:Below wr.heap.size wr WA:=by rw [hWA.out];go_grown
     have hBA:Below W0.heap.size W0 WA:=hB.trans (hbA.mono hB.size);have pc0:∀ i:After WA,i.w.cell? ⟨w.heap.size,0,none⟩=some (.int .i64 x.dev):=fun i=>i.cell (kept hBA C0);have pc1:∀ i:After WA,i.w.cell? ⟨w.heap.size,1,none⟩=some (.int .i64 x.inc):=fun i=>i.cell (kept hBA C1);have pe0:∀ i:After WA,i.w.cell? ⟨A,off+k * 3,none⟩=some (.int .i64 d.a.dev):=fun i=>i.cell (kept hBA E0);have pe1:∀ i:After WA,i.w.cell? ⟨A,off+k * 3+1,none⟩=some (.int .i64 d.a.inc):=fun i=>i.cell (kept hBA E1);have pe2:∀ i:After WA,i.w.cell? ⟨A,off+k * 3+2,none⟩=some (.int .i64 d.seq):=fun i=>i.cell (kept hBA E2);clear hWA hBA;iterate 12 go_big_quiet_step (fail)
     refine wpQuiet_nil ?_;rintro _ ⟨i,rfl⟩;have hiA:=i.h;generalize i.w=wp at hiA ⊢;have hbY:Below wr.heap.size wr wp:=below2 hbA hiA;replace hown:=ownsRow_below hown hbY;replace hB:=hB.trans (hbY.mono hB.size);clear hbA hiA hbY pc0 pc1 pe0 pe1 pe2;by_cases he:d.a=x
     ·rw [aR he] at hEq
      have HF:Hid (d.a=x):=he;clear he;go_upto_region 9 with fail
      refine y22 ?_
      intro WA hWA hbA
      refine y3 ?_
      clear hWA
      intro pc0 pc1 pe0 pe1 pe2
      rintro _ ⟨i,rfl⟩;have hiA:=i.h;generalize i.w=wq at hiA ⊢;have hbY:Below wp.heap.size wp wq:=below2 hbA hiA;replace hown:=ownsRow_below hown hbY;replace hB:=hB.trans (hbY.mono hB.size);clear hbA hiA hbY pc0 pc1 pe0 pe1 pe2;have HN:Hid ((l.take (k+1)).foldl (cZ x n) ([],false)=(o,true)):=by unfold Hid;rw [HT.out];simp [cZ,HF.out,dw,HA.out]
      have HZ:=aa (a7 hown hB);have hll:(o).length<=2 * (k+1):=by have:=HO.out;simp <;> omega
      have HL:=aa hll;clear hown hB hol hll;go_wp2;go_roundw
      case rel=>exact ⟨k+1,o,true,by go_num,HLT.out,rfl,HN.out,HZ.out.1,HL.out,HZ.out.2⟩
      case measure => exact z64
     ·rw [aM he] at hEq
      have HF:Hid (d.a≠x):=he;clear he;go_upto_region 9 with fail
      refine y22 ?_
      intro WA hWA hbA
      refine y3 ?_
      clear hWA
      intro pc0 pc1 pe0 pe1 pe2
      rintro _ ⟨i,rfl⟩;have hiA:=i.h;generalize i.w=wq at hiA ⊢
      refine y39 ?_
      clear hown hB hbA hiA pc0 pc1 pe0 pe1 pe2
      intro hown hB hlO hzX c0 c1 e0 e1 e2
      go_wp2_with (at_builtin;refine wpList_append_own _ rfl _ _ 43 rfl W0.heap.size 202 i0 (.agg #[.int .i64 0,.int .i64 0,.int .i64 0]) 3 24 underlying43 hi hz0 hz1 hz2 rfl (by decide) _ _ _ rfl (hown.alloc _) ⟨wq.heap.size,0,none⟩ 1 1 [.int .i64 d.a.dev,.int .i64 d.a.inc,.int .i64 d.seq] rfl rfl (gX _ _ _) (by simp [Value.oneCell']) (by unfold maxLen;omega) (by omega) (by simp;omega) ?_;intro vwz wz rJ hgrow _)
      refine y40 ?_
      clear hB
      intro hB
      clear hown hgrow hlO hzX c0 c1 e0 e1 e2;have hown:wz.ownsRow W0.heap.size 202 3 vwz (o++[d]).length (aI (o++[d])):=by rw [gV,ar];exact rJ
      clear rJ;have HN:Hid ((l.take (k+1)).foldl (cZ x n) ([],false)=(o++[d],true)):=by unfold Hid;rw [HT.out];simp [cZ,HF.out,dw,HA.out]
      have HZ:=aa (a7 hown hB);have hll:(o++[d]).length<=2 * (k+1):=by have:=HO.out;simp <;> omega
      have HL:=aa hll;clear hown hB hol hll;go_wp2;go_roundw
      case rel=>exact ⟨k+1,o++[d],true,by go_num,HLT.out,rfl,HN.out,HZ.out.1,HL.out,HZ.out.2⟩
      case measure => exact z64
   | false =>
     cases ha:bI d.a x with
     | true =>
       rw [ha] at HR1;have HA:Hid (bI d.a x=true):=ha;clear ha;go_upto_region 6 with fail
       refine aH (by kernel_rfl) (by kernel_rfl) (fun WA hWA=>?_);have hbA:Below wr.heap.size wr WA:=by rw [hWA.out];go_grown
       have hBA:Below W0.heap.size W0 WA:=hB.trans (hbA.mono hB.size);have pc0:∀ i:After WA,i.w.cell? ⟨w.heap.size,0,none⟩=some (.int .i64 x.dev):=fun i=>i.cell (kept hBA C0);have pc1:∀ i:After WA,i.w.cell? ⟨w.heap.size,1,none⟩=some (.int .i64 x.inc):=fun i=>i.cell (kept hBA C1);have pe0:∀ i:After WA,i.w.cell? ⟨A,off+k * 3,none⟩=some (.int .i64 d.a.dev):=fun i=>i.cell (kept hBA E0);have pe1:∀ i:After WA,i.w.cell? ⟨A,off+k * 3+1,none⟩=some (.int .i64 d.a.inc):=fun i=>i.cell (kept hBA E1);have pe2:∀ i:After WA,i.w.cell? ⟨A,off+k * 3+2,none⟩=some (.int .i64 d.seq):=fun i=>i.cell (kept hBA E2);clear hWA hBA;iterate 9 go_big_quiet_step (fail)
       go_big_quiet_step (exact Calls.after (HR1 _))
       iterate 2 go_big_quiet_step (fail)
       refine wpQuiet_nil ?_;rintro _ ⟨i,rfl⟩;have hiA:=i.h;generalize i.w=wp at hiA ⊢;have hbY:Below wr.heap.size wr wp:=below2 hbA hiA;replace hown:=ownsRow_below hown hbY;replace hB:=hB.trans (hbY.mono hB.size);clear hbA hiA hbY pc0 pc1 pe0 pe1 pe2;by_cases he:d.a=x
       ·rw [aR he] at hEq
        have h9:=HA.out;rw [he,dw] at h9
        cases h9
       ·rw [aM he] at hEq
        have HF:Hid (d.a≠x):=he;clear he;go_upto_region 9 with fail
        refine y22 ?_
        intro WA hWA hbA
        refine y3 ?_
        clear hWA
        intro pc0 pc1 pe0 pe1 pe2
        rintro _ ⟨i,rfl⟩;have hiA:=i.h;generalize i.w=wq at hiA ⊢
        refine y39 ?_
        clear hown hB hbA hiA pc0 pc1 pe0 pe1 pe2
        intro hown hB hlO hzX c0 c1 e0 e1 e2
        go_wp2_with (at_builtin;refine wpList_append_own _ rfl _ _ 43 rfl W0.heap.size 202 i0 (.agg #[.int .i64 0,.int .i64 0,.int .i64 0]) 3 24 underlying43 hi hz0 hz1 hz2 rfl (by decide) _ _ _ rfl (hown.alloc _) ⟨wq.heap.size,0,none⟩ 1 1 [.int .i64 d.a.dev,.int .i64 d.a.inc,.int .i64 d.seq] rfl rfl (gX _ _ _) (by simp [Value.oneCell']) (by unfold maxLen;omega) (by omega) (by simp;omega) ?_;intro vwz wz rJ hgrow _)
        refine y40 ?_
        clear hB
        intro hB
        clear hown hgrow hlO hzX c0 c1 e0 e1 e2;have hown:wz.ownsRow W0.heap.size 202 3 vwz (o++[d]).length (aI (o++[d])):=by rw [gV,ar];exact rJ
        clear rJ;have HN:Hid ((l.take (k+1)).foldl (cZ x n) ([],false)=(o++[d],false)):=by unfold Hid;rw [HT.out];simp [cZ,HF.out,dw,HA.out]
        have HZ:=aa (a7 hown hB);have hll:(o++[d]).length<=2 * (k+1):=by have:=HO.out;simp <;> omega
        have HL:=aa hll;clear hown hB hol hll;go_wp2;go_roundw
        case rel=>exact ⟨k+1,o++[d],false,by go_num,HLT.out,rfl,HN.out,HZ.out.1,HL.out,HZ.out.2⟩
        case measure => exact z64
     | false =>
       rw [ha] at HR1;have HA:Hid (bI d.a x=false):=ha;clear ha;go_upto_region 6 with fail
       refine aH (by kernel_rfl) (by kernel_rfl) (fun WA hWA=>?_);have hbA:Below wr.heap.size wr WA:=by rw [hWA.out];go_grown
       have hBA:Below W0.heap.size W0 WA:=hB.trans (hbA.mono hB.size);have pc0:∀ i:After WA,i.w.cell? ⟨w.heap.size,0,none⟩=some (.int .i64 x.dev):=fun i=>i.cell (kept hBA C0);have pc1:∀ i:After WA,i.w.cell? ⟨w.heap.size,1,none⟩=some (.int .i64 x.inc):=fun i=>i.cell (kept hBA C1);have pe0:∀ i:After WA,i.w.cell? ⟨A,off+k * 3,none⟩=some (.int .i64 d.a.dev):=fun i=>i.cell (kept hBA E0);have pe1:∀ i:After WA,i.w.cell? ⟨A,off+k * 3+1,none⟩=some (.int .i64 d.a.inc):=fun i=>i.cell (kept hBA E1);have pe2:∀ i:After WA,i.w.cell? ⟨A,off+k * 3+2,none⟩=some (.int .i64 d.seq):=fun i=>i.cell (kept hBA E2);clear hWA hBA;iterate 9 go_big_quiet_step (fail)
       go_big_quiet_step (exact Calls.after (HR1 _))
       iterate 2 go_big_quiet_step (fail)
       refine wpQuiet_nil ?_;rintro _ ⟨i,rfl⟩;have hiA:=i.h;generalize i.w=wp at hiA ⊢;have hbY:Below wr.heap.size wr wp:=below2 hbA hiA;replace hown:=ownsRow_below hown hbY;replace hB:=hB.trans (hbY.mono hB.size);clear hbA hiA hbY pc0 pc1 pe0 pe1 pe2;have hlO:o.length<=1073741826:=by (try simp only [ar,List.length_cons,List.length_nil]);omega
       have hzX:=hB.size;have c0:=kept hB C0;have c1:=kept hB C1;have e0:=kept hB E0;have e1:=kept hB E1;have e2:=kept hB E2;go_upto_region 9 with (at_builtin;refine wpList_append_own _ rfl _ _ 43 rfl W0.heap.size 202 i0 (.agg #[.int .i64 0,.int .i64 0,.int .i64 0]) 3 24 underlying43 hi hz0 hz1 hz2 rfl (by decide) _ _ _ rfl (hown.alloc _) ⟨wp.heap.size,0,none⟩ 1 1 [.int .i64 x.dev,.int .i64 x.inc,.int .i64 n] rfl rfl (gX _ _ _) (by simp [Value.oneCell']) (by unfold maxLen;omega) (by omega) (by simp;omega) ?_;intro vwv wv QH hgrow _)
       replace hB:=(hB.trans (((bb wp.heap.size wp).alloc (aq _) (.cells #[.int .i64 x.dev,.int .i64 x.inc,.int .i64 n] 202)).mono hB.size)).grown hgrow (by simp;omega) (fun j hj=>(hown.lt j hj).1);clear hown hgrow hlO hzX c0 c1 e0 e1 e2;have hown:wv.ownsRow W0.heap.size 202 3 vwv (o++[(⟨x,n⟩:Dot)]).length (aI (o++[(⟨x,n⟩:Dot)])):=by rw [gV,ar];exact QH
       clear QH;by_cases he:d.a=x
       ·rw [aR he] at hEq
        have HF:Hid (d.a=x):=he;clear he;go_upto_region 9 with fail
        refine aH (by kernel_rfl) (by kernel_rfl) (fun WA hWA=>?_);have hbA:Below wv.heap.size wv WA:=by rw [hWA.out];go_grown
        refine y3 ?_
        clear hWA
        intro pc0 pc1 pe0 pe1 pe2
        rintro _ ⟨i,rfl⟩;have hiA:=i.h;generalize i.w=wq at hiA ⊢;have hbY:Below wv.heap.size wv wq:=below2 hbA hiA;replace hown:=ownsRow_below hown hbY;replace hB:=hB.trans (hbY.mono hB.size);clear hbA hiA hbY pc0 pc1 pe0 pe1 pe2;have HN:Hid ((l.take (k+1)).foldl (cZ x n) ([],false)=((o++[(⟨x,n⟩:Dot)]),true)):=by unfold Hid;rw [HT.out];simp [cZ,HF.out,dw,HA.out]
        have HZ:=aa (a7 hown hB);have hll:((o++[(⟨x,n⟩:Dot)])).length<=2 * (k+1):=by have:=HO.out;simp <;> omega
        have HL:=aa hll;clear hown hB hol hll;go_wp2;go_roundw
        case rel=>exact ⟨k+1,(o++[(⟨x,n⟩:Dot)]),true,by go_num,HLT.out,rfl,HN.out,HZ.out.1,HL.out,HZ.out.2⟩
        case measure => exact z64
       ·rw [aM he] at hEq
        have HF:Hid (d.a≠x):=he;clear he;go_upto_region 9 with fail
        refine aH (by kernel_rfl) (by kernel_rfl) (fun WA hWA=>?_);have hbA:Below wv.heap.size wv WA:=by rw [hWA.out];go_grown
        refine y3 ?_
        clear hWA
        intro pc0 pc1 pe0 pe1 pe2
        rintro _ ⟨i,rfl⟩;have hiA:=i.h;generalize i.w=wq at hiA ⊢;have hbY:Below wv.heap.size wv wq:=below2 hbA hiA;replace hown:=ownsRow_below hown hbY;replace hB:=hB.trans (hbY.mono hB.size);clear hbA hiA hbY pc0 pc1 pe0 pe1 pe2;have hlO:((o++[(⟨x,n⟩:Dot)])).length<=1073741826:=by (try simp only [ar,List.length_cons,List.length_nil]);omega
        have hzX:=hB.size;have c0:=kept hB C0;have c1:=kept hB C1;have e0:=kept hB E0;have e1:=kept hB E1;have e2:=kept hB E2;go_wp2_with (at_builtin;refine wpList_append_own _ rfl _ _ 43 rfl W0.heap.size 202 i0 (.agg #[.int .i64 0,.int .i64 0,.int .i64 0]) 3 24 underlying43 hi hz0 hz1 hz2 rfl (by decide) _ _ _ rfl (hown.alloc _) ⟨wq.heap.size,0,none⟩ 1 1 [.int .i64 d.a.dev,.int .i64 d.a.inc,.int .i64 d.seq] rfl rfl (gX _ _ _) (by simp [Value.oneCell']) (by unfold maxLen;omega) (by omega) (by simp;omega) ?_;intro vwz wz rJ hgrow _)
        refine y40 ?_
        clear hB
        intro hB
        clear hown hgrow hlO hzX c0 c1 e0 e1 e2;have hown:wz.ownsRow W0.heap.size 202 3 vwz (o++[(⟨x,n⟩:Dot)]++[d]).length (aI (o++[(⟨x,n⟩:Dot)]++[d])):=by rw [gV,ar];exact rJ
        clear rJ;have HN:Hid ((l.take (k+1)).foldl (cZ x n) ([],false)=((o++[(⟨x,n⟩:Dot)])++[d],true)):=by unfold Hid;rw [HT.out];simp [cZ,HF.out,dw,HA.out]
        have HZ:=aa (a7 hown hB);have hll:((o++[(⟨x,n⟩:Dot)])++[d]).length<=2 * (k+1):=by have:=HO.out;simp <;> omega
        have HL:=aa hll;clear hown hB hol hll;go_wp2;go_roundw
        case rel=>exact ⟨k+1,(o++[(⟨x,n⟩:Dot)])++[d],true,by go_num,HLT.out,rfl,HN.out,HZ.out.1,HL.out,HZ.out.2⟩
        case measure => exact z64
  ·obtain rfl:k=l.length:=by omega
   have hP:=HP.out;rw [List.take_length] at hP;have hkl:l.length<=268435456:=hl
   cases t with
   | true =>
     have HE:Hid (jR l x n=o):=by unfold Hid jR;rw [hP,if_pos rfl]
     clear hP;go_wp2;go_ret;exact ⟨_,rfl,by rw [HE.out];exact fE hown hlow,hb0.trans (hB.mono hb0.size)⟩
   | false =>
     have HE:Hid (jR l x n=o++[⟨x,n⟩]):=by unfold Hid jR;rw [hP,if_neg (by show ¬ (false=true);decide)]
     clear hP;have c0:=kept hB C0;have c1:=kept hB C1;have hzX:=hB.size;go_wp2_with (at_builtin;go_loud (refine wpList_append_own _ rfl _ _ 43 rfl W0.heap.size 202 i0 (.agg #[.int .i64 0,.int .i64 0,.int .i64 0]) 3 24 underlying43 hi hz0 hz1 hz2 rfl (by decide) _ _ _ rfl (hown.alloc _) ⟨wr.heap.size,0,none⟩ 1 1 [.int .i64 x.dev,.int .i64 x.inc,.int .i64 n] rfl rfl (gX _ _ _) (by simp [Value.oneCell']) (by unfold maxLen;omega) (by omega) (by simp;omega) ?_);intro v9 w9 V8 hgrow _)
     go_ret;have hB9:=(hB.trans (((bb wr.heap.size wr).alloc (aq _) (.cells #[.int .i64 x.dev,.int .i64 x.inc,.int .i64 n] 202)).mono hB.size)).grown hgrow (by simp;omega) (fun j hj=>(hown.lt j hj).1);refine ⟨_,rfl,?_,hb0.trans (hB9.mono hb0.size)⟩;rw [HE.out,gV,ar];exact fE V8 hlow
end Go.Proofs.YthphepeniaemoaaGreat
