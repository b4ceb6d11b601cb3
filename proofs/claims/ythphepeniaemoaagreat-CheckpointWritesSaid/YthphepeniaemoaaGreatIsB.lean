/- The reference's map: Fold. Conditions: as in the text. -/
import Derived.Test.YthphepeniaemoaaGreatRelP
import Derived.Test.YthphepeniaemoaaGreatLoad
import Derived.Test.YthphepeniaemoaaGreatTrod
import Derived.ProofKit
import Derived.Deep.Slices
import Derived.OpenShut
import Derived.Test.YthphepeniaemoaaGreatClone
import Derived.Test.YthphepeniaemoaaGreatCel
set_option linter.unusedSimpArgs false
set_option linter.unusedVariables false
set_option linter.unnecessarySimpa false
set_option maxHeartbeats 16000000
set_option maxRecDepth 100000
open Go.Proofs.Tryz
namespace Go.Proofs.YthphepeniaemoaaGreat
open Go.RowKit
/-- a block of slices is no list's -/
def Sl3 (w:World) (R:Nat):Prop:=∃ a n c a2 n2 c2 a3 n3 c3 t f,w.heap[R]?=some (.cells #[.slice a n c,.slice a2 n2 c2,.slice a3 n3 c3] t f)
theorem Sl3.int {w:World} {R:Nat} (h:Sl3 w R) {A o:Nat} {k:IntKind} {n:Int} (hc:w.cell? ⟨A,o,none⟩=some (.int k n)):A≠R:=by
 rintro rfl;obtain ⟨a,n,c,a2,n2,c2,a3,n3,c3,t,f,hh⟩:=h;simp only [World.cell?,hh] at hc;match o,hc with
 | 0,hc=>simp at hc
 | 1,hc=>simp at hc
 | 2,hc=>simp at hc
 | o+3,hc=>simp at hc
theorem DotsIn.not3 {w w':World} {R:Nat} {a:Option Addr} {l:List Dot} (h:DotsIn w a l) (hR:Sl3 w R) (hk:∀ k,k≠R->w'.heap[k]?=w.heap[k]?):DotsIn w' a l:=by
 refine h.imp id fun ⟨A,off,h1,h2⟩=>⟨A,off,h1,?_⟩;have hkc:∀ o n,w.cell? ⟨A,o,none⟩=some (.int .i64 n)->w'.cell? ⟨A,o,none⟩=some (.int .i64 n):=fun o n hc=>(World.cell?_of_block (hk A (hR.int hc))).trans hc;exact ⟨fun i hi=>hkc _ _ (h2.dev i hi),fun i hi=>hkc _ _ (h2.inc i hi),fun i hi=>hkc _ _ (h2.seq i hi)⟩
theorem EvsIn.not3 {w w':World} {R:Nat} {a:Option Addr} {ls:List EvIt} (h:EvsIn w a ls) (hR:Sl3 w R) (hk:∀ k,k≠R->w'.heap[k]?=w.heap[k]?):EvsIn w' a ls:=by
 refine ⟨h.rows.imp id fun ⟨A,off,h1,h2⟩=>⟨A,off,h1,fun i hi j v hv=>?_⟩,fun x hx=>(h.dots x hx).not3 hR hk⟩;have hA:A≠R:=hR.int (h2 i hi 0 _ rfl);exact (World.cell?_of_block (hk A hA)).trans (h2 i hi j v hv)
theorem RMIn.not3 {w w':World} {R:Nat} {x:RMIt} (h:RMIn w x) (hR:Sl3 w R) (hk:∀ k,k≠R->w'.heap[k]?=w.heap[k]?):RMIn w' x:=⟨h.ctx.not3 hR hk,h.kept.not3 hR hk,h.dead.not3 hR hk,h.cc,h.cK,h.cd⟩
abbrev PL (x:RMIt):Array Value:=#[.slice x.ac x.ctx.length x.cc,.slice x.aK x.K.length x.cK,.slice x.ad x.dead.length x.cd]
def RMAt (w:World) (R:Nat) (x:RMIt):Prop:=w.heap[R]?=some (.cells (PL x) 46 (0,0))
theorem RMAt.sl3 {w:World} {R:Nat} {x:RMIt} (h:RMAt w R x):Sl3 w R:=⟨_,_,_,_,_,_,_,_,_,_,_,h⟩
theorem RMAt.cells {w:World} {R:Nat} {x:RMIt} (h:RMAt w R x):w.cell? ⟨R,0,none⟩=some (.slice x.ac x.ctx.length x.cc)/\w.cell? ⟨R,1,none⟩=some (.slice x.aK x.K.length x.cK)/\w.cell? ⟨R,2,none⟩=some (.slice x.ad x.dead.length x.cd):=by
 simp only [RMAt,PL] at h;simp [World.cell?,h]
theorem RMAt.kept {w w':World} {R:Nat} {x:RMIt} (h:RMAt w R x) (hb:Below w.heap.size w w'):RMAt w' R x:=(hb.block _ (lt_of_block h)).trans h
def rm0:RMIt:=⟨none,[],0,none,[],0,none,[],0⟩
theorem Ul (w:World):RMIn w rm0:=⟨bb rfl,⟨bb rfl,fun x hx=>(nomatch hx)⟩,bb rfl,ar _,ar _,ar _⟩
def TD (l:List Ev) (w:World) (e:Ending) (w':World):Prop:=∃ y,e=.returned (Ed y)/\RMIn w' y/\y.rm=l.foldl rW RM.empty/\Below w.heap.size w w'
theorem z16 {p : Prop} (h : p := by
 clear hX hq0 hqn
 obtain ⟨d0, d1, d2⟩ := hqX.cells
 have xA : RMAt X (w.heap.size + 1) y := (hHeld.block _ hlo).trans vA
 have xZ := (hHeld.block w.heap.size (by omega)).trans vZ
 have HX := aq (ba hzX (ba xA (ba xZ (ba KQ (ba hHeld hlo)))))
 have hx3 := xA
 clear hzX xZ vA vI vd vZ vR vC0 vC1 vC2 hqX xA hlo KQ hHeld hb5 hz5
 unfold RMAt at hx3
 go_wp2_with (refine wpList_store_row rfl 46 _ _ rfl (w.heap.size + 1) #[.slice z.ac z.ctx.length z.cc, .slice z.aK z.K.length z.cK, .slice z.ad z.dead.length z.cd] rfl rfl 46 _ hx3 (by kernel_rfl) rfl (by kernel_rfl) ?_)
 obtain ⟨hzX, xA, xZ, KQ, hHeld, hlo⟩ := HX.out
 have HF : Hid (RMAt (X.setRow (w.heap.size + 1) #[.slice z.ac z.ctx.length z.cc, .slice z.aK z.K.length z.cK, .slice z.ad z.dead.length z.cd]) (w.heap.size + 1) z /\ RMIn (X.setRow (w.heap.size + 1) #[.slice z.ac z.ctx.length z.cc, .slice z.aK z.K.length z.cK, .slice z.ad z.dead.length z.cd]) z /\ z.rm = ((evsOf ls).take (k + 1)).foldl rW RM.empty /\ (X.setRow (w.heap.size + 1) #[.slice z.ac z.ctx.length z.cc, .slice z.aK z.K.length z.cK, .slice z.ad z.dead.length z.cd]).heap[w.heap.size]? = some (.cells #[.slice none 0 0, .slice none 0 0, .slice none 0 0] 46 (0, 0)) /\ Below w.heap.size w (X.setRow (w.heap.size + 1) #[.slice z.ac z.ctx.length z.cc, .slice z.aK z.K.length z.cK, .slice z.ad z.dead.length z.cd])) := by
  refine ⟨setRow_heap _ _ _ _ _ _ hx3, RMIn.not3 (R := w.heap.size + 1) hzX xA.sl3 (fun k9 hk9 => bi _ _ _ _ (fun e9 => hk9 e9.symm)), ?_, (bi _ _ _ _ (by omega)).trans xZ, below_setRow (KQ.trans (hHeld.mono (by omega))) (by omega) _⟩
  rw [HT.out, List.foldl_append, <- HY.out]
  exact hzr
 clear hzX xA xZ KQ hHeld hlo hx3 d0 d1 d2
 go_roundw
 case rel => exact ⟨k + 1, z, by go_num, HLT.out, HF.out.1, HF.out.2.1, HF.out.2.2.1, HF.out.2.2.2.1, HF.out.2.2.2.2⟩
 case measure => have := HLT.out; simp [intOf] <;> omega) : p := h
theorem z92 {p : Prop} (h : p := by
 unfold Hid
 rw [List.take_add_one, List.getElem?_eq_getElem (by rw [aW]; exact hlt), xC hlt]
 rfl) : p := h
theorem z74 {p : Prop} (h : p := by (intro w hSw; have sC0 := kept hSw vC0; have sC1 := kept hSw vC1; have sC2 := kept hSw vC2; go_simp; try with_reducible rfl)) : p := h
theorem y24 {p q : Prop} (k : q) (h : PLift q -> p := by
 intro kk
 refine hK.out _ _ hNext (fun ah => ?_)
 have hHeld := hNext
 clear ah
 try simp only [pS]
 revert hHeld
 exact kk.down) : p := h ⟨k⟩
theorem NL (a:Option Addr) (cap:Nat) (ls:List EvIt) (w:World) (hl:ls.length<=4095) (hE:EvsIn w a ls) (hsm:EvsSmall ls) :
 Calls prog 23 #[.slice a ls.length cap] w (TD (evsOf ls) w):=by
 go_enter func23,ntmps23;go_upto_region 2 with fail
 refine aI (fun W0 hW0=>?_);have hb0:Below w.heap.size w W0:=by rw [hW0.out];go_grown
 have hA0:RMAt W0 (w.heap.size+1) rm0:=by
  rw [hW0.out];exact eY _ _ _
 have hZ:W0.heap[w.heap.size]?=some (.cells #[.slice none 0 0,.slice none 0 0,.slice none 0 0] 46 (0,0)):=by
  rw [hW0.out];exact (((bh _ _).alloc (ar _) _).block _ (by simp)).trans (aY _ _)
 have hz0:=hb0.size;have HSM:=aq hsm;clear hW0 hsm;go_wp2;go_loopw [4] (fun i wr=>∃ (k:Nat) (y:RMIt),i=.int .i64 k/\k<=ls.length/\RMAt wr (w.heap.size+1) y/\RMIn wr y/\y.rm=((evsOf ls).take k).foldl rW RM.empty/\wr.heap[w.heap.size]?=some (.cells #[.slice none 0 0,.slice none 0 0,.slice none 0 0] 46 (0,0))/\Below w.heap.size w wr) (fun i _=>ls.length - (intOf i).toNat)
 case atStart=>exact ⟨0,rm0,rfl,Nat.zero_le _,hA0,Ul _,rfl,hZ,hb0⟩
 case round =>
  obtain ⟨k,y,rfl,hk,hAt,hIn,hY,hZr,hbw⟩:=hrel;have HY:=aq hY;obtain ⟨c0,c1,c2⟩:=hAt.cells;by_cases hlt:k<ls.length
  ·obtain ⟨A,off,rfl,hra,hda⟩:=(hE.kept hbw).at hlt
   have r1:=hra k hlt;have hse:=HSM.out _ (List.getElem_mem hlt);have HT:Hid ((evsOf ls).take (k+1)=(evsOf ls).take k++[ls[k].1]):=by
        exact z92
   have HLT:=aq hlt;have hkl:k<=4095:=by omega
   generalize ls[k]=x at *;obtain ⟨e,ax,cx⟩:=x;simp only [qj] at r1;simp only at hda hse HT;have hgood:RMGood y.rm k:=by
        have:=RMGood.empty.fold ((evsOf ls).take k);rw [<- HY.out,List.length_take,aW,aw,Nat.min_eq_left hk] at this;exact this
   have HAp:=aq (fun (X:World) (hIn:RMIn X y) (hd:DotsIn X ax e.over)=>show Calls prog 61 #[Ed y,.agg (az e ax cx).toArray] X (Uc y.rm e X) from J8 y e ax cx X hIn (hgood.size (by omega)) hse hd);clear hra hgood hse;go_upto_region 5 with fail
   refine aI (fun V hV=>?_);have hbV:Below wr.heap.size wr V.drew:=by rw [hV.out];go_grown
   have vC0:=kept hbV c0;have vC1:=kept hbV c1;have vC2:=kept hbV c2;have vR:=ai r1 hbV;have vI:=hIn.keep hbV;have vd:=hda.kept hbV;have vA:=hAt.kept hbV;have KQ:Below w.heap.size w V.drew:=hbw.trans (hbV.mono hbw.size);have vZ:=(hbV.block _ (lt_of_block hZr)).trans hZr;have hlo:w.heap.size+1<V.drew.heap.size:=lt_of_block vA;clear hV hbV hIn hAt hZr c0 c1 c2 r1 hda hbw;refine wp_region_noPanic ?_;refine wp_region_held_drew (S:=fun W'=>Below V.drew.heap.size V.drew W') (by kernel_rfl) (bh _ _) (fun hHeld=>?_);refine tH (v:=?_) 0 16 rfl (bb ⟨by rfl,?_⟩) ?_
   case refine_2 => exact z74
   try simp only [pS]
   refine tH (v:=?_) 1 17 rfl (bb ⟨by rfl,?_⟩) ?_
   case refine_2 => exact z74
   try simp only [pS]
   refine tH (v:=?_) 2 18 rfl (bb ⟨by rfl,?_⟩) ?_
   case refine_2 => exact z74
   try simp only [pS]
   refine tH (v:=?_) 3 19 rfl (bb ⟨by rfl,?_⟩) ?_
   case refine_2 => exact z74
   try simp only [pS]
   refine tH 4 20 rfl (yieldsIf_load_mid (by rfl) 82 _ rfl A (off+k * 19) rfl (az e ax cx) _ (fun X h=>ai vR h) underlying82 rfl (by kernel_rfl)) ?_;try simp only [pS]
   refine wpAnyH_ready (rs:=[5,10]) (by kernel_rfl) (by simp) ?_;refine AllReadyH.cons (o:=⟨some 21,_,_,_,_,_⟩) rfl (fun K hK=>?_) (AllReadyH.cons (o:=⟨some 5,_,_,_,_,_⟩) rfl (fun K hK=>?_) AllReadyH.nil)
   ·skip
    go_simp;go_at_call 61;(with_reducible refine (HAp.out _ (vI.keep hHeld) (vd.kept hHeld)).mono ?_)
    rintro v w5 ⟨z,rfl,hz5,hzr,hb5⟩;go_simp;have hNext:=hHeld.trans (hb5.mono hHeld.size)
    refine y24 ?_
    clear hK K hHeld hNext
    intro hHeld
    refine tH (v:=?_) 6 15 rfl (bb ⟨by rfl,?_⟩) ?_
    case refine_2 => (intro w hSw; go_simp; try with_reducible rfl)
    try simp only [pS]
    refine tH (v:=?_) 7 22 rfl (bb ⟨by rfl,?_⟩) ?_
    case refine_2 => (intro w hSw; go_simp; try with_reducible rfl)
    try simp only [pS]
    refine tH (v:=?_) 8 23 rfl (bb ⟨by rfl,?_⟩) ?_
    case refine_2 => (intro w hSw; go_simp; try with_reducible rfl)
    try simp only [pS]
    refine tH (v:=?_) 9 24 rfl (bb ⟨by rfl,?_⟩) ?_
    case refine_2 => (intro w hSw; go_simp; try with_reducible rfl)
    try simp only [pS]
    refine rH 10 5 rfl fun K hK=>?_;have XK:=hHeld.size;go_simp;have hNext:=hHeld.alloc hHeld.size (.cells #[.slice none 0 0,.slice none 0 0,.slice none 0 0] 46)
    refine y24 ?_
    clear hK K hHeld hNext
    intro hHeld
    refine wpAnyH_ready (rs:=[11]) (by kernel_rfl) (by simp) ?_;refine AllReadyH.cons (o:=⟨none,_,_,_,_,_⟩) rfl (fun K hK=>?_) AllReadyH.nil;have hq0:(w5.alloc (.cells #[.slice none 0 0,.slice none 0 0,.slice none 0 0] 46)).heap[w5.heap.size]?=some (.cells #[.slice none 0 0,.slice none 0 0,.slice none 0 0] 46 (0,0)):=aY _ _;refine dM (by rfl) 46 _ _ rfl (w5.heap.size) #[.slice z.ac z.ctx.length z.cc,.slice z.aK z.K.length z.cK,.slice z.ad z.dead.length z.cd] rfl rfl 46 _ hq0 (by kernel_rfl) rfl (by kernel_rfl) ?_;have hNext:Below V.drew.heap.size V.drew ((w5.alloc (.cells #[.slice none 0 0,.slice none 0 0,.slice none 0 0] 46)).setRow (w5.heap.size) #[.slice z.ac z.ctx.length z.cc,.slice z.aK z.K.length z.cK,.slice z.ad z.dead.length z.cd]):=below_setRow hHeld (by omega:V.drew.heap.size<=w5.heap.size) #[.slice z.ac z.ctx.length z.cc,.slice z.aK z.K.length z.cK,.slice z.ad z.dead.length z.cd]
    refine y24 ?_
    clear hK K hHeld hNext
    intro hHeld
    refine tH (v:=?_) 12 6 rfl (bb ⟨by rfl,?_⟩) ?_
    case refine_2 => (intro w hSw; go_simp; try with_reducible rfl)
    try simp only [pS]
    refine tH (v:=?_) 13 7 rfl (bb ⟨by rfl,?_⟩) ?_
    case refine_2 => (intro w hSw; go_simp; try with_reducible rfl)
    refine y68 ?_
    obtain ⟨X,hX⟩:∃ X,X=(w5.alloc (.cells #[.slice none 0 0,.slice none 0 0,.slice none 0 0] 46)).setRow (w5.heap.size) #[.slice z.ac z.ctx.length z.cc,.slice z.aK z.K.length z.cK,.slice z.ad z.dead.length z.cd]:=⟨_,rfl⟩;rw [<- hX] at hHeld ⊢;have hqX:RMAt X (w5.heap.size) z:=by rw [hX];exact setRow_heap _ _ _ _ _ _ hq0
    have hzX:RMIn X z:=by
     rw [hX];exact RMIn.not3 (R:=w5.heap.size) (hz5.keep ((bh _ _).alloc (ar _) _)) ⟨_,_,_,_,_,_,_,_,_,_,_,hq0⟩ (fun k9 hk9=>bi _ _ _ _ (fun e9=>hk9 e9.symm))
    generalize hqn:w5.heap.size=q at *
    exact z16
   ·skip
    go_simp;have hNext:=hHeld.alloc hHeld.size (.cells #[.slice none 0 0,.slice none 0 0,.slice none 0 0] 46)
    refine y24 ?_
    clear hK K hHeld hNext
    intro hHeld
    replace hHeld:Below V.drew.heap.size V.drew (V.alloc (.cells #[.slice none 0 0,.slice none 0 0,.slice none 0 0] 46)).drew:=hHeld;refine rH 5 21 rfl fun K hK=>?_;go_simp;go_at_call 61;(with_reducible refine (HAp.out _ (vI.keep hHeld) (vd.kept hHeld)).mono ?_)
    rintro v w5 ⟨z,rfl,hz5,hzr,hb5⟩;go_simp;have hNext:=hHeld.trans (hb5.mono hHeld.size)
    refine y24 ?_
    clear hK K hHeld hNext
    intro hHeld
    refine tH (v:=?_) 6 15 rfl (bb ⟨by rfl,?_⟩) ?_
    case refine_2 => (intro w hSw; go_simp; try with_reducible rfl)
    try simp only [pS]
    refine tH (v:=?_) 7 22 rfl (bb ⟨by rfl,?_⟩) ?_
    case refine_2 => (intro w hSw; go_simp; try with_reducible rfl)
    try simp only [pS]
    refine tH (v:=?_) 8 23 rfl (bb ⟨by rfl,?_⟩) ?_
    case refine_2 => (intro w hSw; go_simp; try with_reducible rfl)
    try simp only [pS]
    refine tH (v:=?_) 9 24 rfl (bb ⟨by rfl,?_⟩) ?_
    case refine_2 => (intro w hSw; go_simp; try with_reducible rfl)
    try simp only [pS]
    refine wpAnyH_ready (rs:=[11]) (by kernel_rfl) (by simp) ?_;refine AllReadyH.cons (o:=⟨none,_,_,_,_,_⟩) rfl (fun K hK=>?_) AllReadyH.nil;have hq0:w5.heap[V.heap.size]?=some (.cells #[.slice none 0 0,.slice none 0 0,.slice none 0 0] 46 (0,0)):=(hb5.block V.drew.heap.size (by show V.heap.size<(V.heap.push _).size;simp)).trans (aY V _);refine dM (by rfl) 46 _ _ rfl (V.heap.size) #[.slice z.ac z.ctx.length z.cc,.slice z.aK z.K.length z.cK,.slice z.ad z.dead.length z.cd] rfl rfl 46 _ hq0 (by kernel_rfl) rfl (by kernel_rfl) ?_;have hNext:Below V.drew.heap.size V.drew (w5.setRow (V.heap.size) #[.slice z.ac z.ctx.length z.cc,.slice z.aK z.K.length z.cK,.slice z.ad z.dead.length z.cd]):=below_setRow hHeld (ar _:V.drew.heap.size<=V.heap.size) #[.slice z.ac z.ctx.length z.cc,.slice z.aK z.K.length z.cK,.slice z.ad z.dead.length z.cd]
    refine y24 ?_
    clear hK K hHeld hNext
    intro hHeld
    refine tH (v:=?_) 12 6 rfl (bb ⟨by rfl,?_⟩) ?_
    case refine_2 => (intro w hSw; go_simp; try with_reducible rfl)
    try simp only [pS]
    refine tH (v:=?_) 13 7 rfl (bb ⟨by rfl,?_⟩) ?_
    case refine_2 => (intro w hSw; go_simp; try with_reducible rfl)
    refine y68 ?_
    obtain ⟨X,hX⟩:∃ X,X=w5.setRow (V.heap.size) #[.slice z.ac z.ctx.length z.cc,.slice z.aK z.K.length z.cK,.slice z.ad z.dead.length z.cd]:=⟨_,rfl⟩;rw [<- hX] at hHeld ⊢;have hqX:RMAt X (V.heap.size) z:=by rw [hX];exact setRow_heap _ _ _ _ _ _ hq0
    have hzX:RMIn X z:=by
     rw [hX];exact RMIn.not3 (R:=V.heap.size) (hz5) ⟨_,_,_,_,_,_,_,_,_,_,_,hq0⟩ (fun k9 hk9=>bi _ _ _ _ (fun e9=>hk9 e9.symm))
    generalize hqn:V.heap.size=q at *
    exact z16
  ·obtain rfl:k=ls.length:=by omega
   have hYe:y.rm=(evsOf ls).foldl rW RM.empty:=by rw [HY.out,List.take_of_length_le (by rw [aW];exact ar _)]
   have HE:=aq hYe;have HB:=aq (ba hbw (ba hIn hAt));clear hYe hbw hIn hAt;go_wp2_with (refine wpList_store_row rfl 46 _ _ rfl w.heap.size #[.slice y.ac y.ctx.length y.cc,.slice y.aK y.K.length y.cK,.slice y.ad y.dead.length y.cd] rfl rfl 46 _ hZr (by kernel_rfl) rfl (by kernel_rfl) ?_)
   refine ed 2 46 46 w.heap.size #[.slice y.ac y.ctx.length y.cc,.slice y.aK y.K.length y.cK,.slice y.ad y.dead.length y.cd] _ rfl rfl (setRow_heap _ _ _ _ _ _ hZr) underlying46 rfl (by kernel_rfl) rfl ?_;obtain ⟨hbw,hIn,hAt⟩:=HB.out;have hbS:=below_setRow hbw (ar _) #[.slice y.ac y.ctx.length y.cc,.slice y.aK y.K.length y.cK,.slice y.ad y.dead.length y.cd];exact ⟨y,rfl,RMIn.not3 (R:=w.heap.size) hIn ⟨_,_,_,_,_,_,_,_,_,_,_,hZr⟩ (fun k9 hk9=>bi _ _ _ _ (fun e9=>hk9 e9.symm)),HE.out,hbS⟩
/-- a map made of events, and the reference's -/
structure MadeIn (w:World) (m:Nat) (b:MB) (s:MS) (y:RMIt) (l:List Ev) (base:Nat):Prop where
 map:MpIn w m b s
 inv:MInv s
 ref:RMIn w y
 rel:Rel s y.rm
 good:RMGood y.rm l.length
 ctx:s.ctx.length<=l.length
 dead:s.dead.length<=64 * l.length
 low:∀ k,foot b s.A k->base<=k
 merged:∃ n f,Merged MS.empty l s n f
end Go.Proofs.YthphepeniaemoaaGreat
/- An event that came in as an argument: its value, and its dots in memory. Conditions: none. -/
namespace Go.Proofs.YthphepeniaemoaaGreat
open Go.ChangeShapes Go.WideShapes Go.ChangeAt Go.RowKit
section
variable {H:Type} {enc:TypeId×Value->H} {P:Program} {w:World} {base:Nat} {spare:Nat->Bool} {held:Bool}
theorem Ux {α:Type} {cs:List α} (h:cs.length=19):∃ c0 c1 c2 c3 c4 c5 c6 c7 c8 c9 c10 c11 c12 c13 c14 c15 c16 c17 c18,cs=[c0,c1,c2,c3,c4,c5,c6,c7,c8,c9,c10,c11,c12,c13,c14,c15,c16,c17,c18]:=by
 match cs,h with
 | [c0,c1,c2,c3,c4,c5,c6,c7,c8,c9,c10,c11,c12,c13,c14,c15,c16,c17,c18],_=>exact ⟨c0,c1,c2,c3,c4,c5,c6,c7,c8,c9,c10,c11,c12,c13,c14,c15,c16,c17,c18,rfl⟩
end
/-- what any event that comes in has: no text and no list too long for the machine, each number one of Go's -/
structure EvIn (w:World) (a:Option Addr) (cap:Nat) (e:Ev):Prop where
 dots:DotsIn w a e.over
 over:e.over.length<=maxLen
 name:e.key.name.size<=maxLen
 domain:e.key.domain.size<=maxLen
 path:e.key.path.size<=maxLen
 value:e.ck.value.size<=maxLen
 nil:a=none->e.over=[]/\cap=0
 old:∀ A off,a=some ⟨A,off,none⟩->e.over≠[]->A<w.heap.size
section
variable {H:Type} {enc:TypeId×Value->H} {w:World} {spare:Nat->Bool} {held:Bool}
theorem NW {fuel:Nat} {cs:List Value} {x:DataW H×List MemPlace} (h:DataW.trod enc prog w 0 spare held fuel 44 cs=some x) :
 ∃ (a:Option Addr) (l:List Dot) (cap:Nat),cs=[.slice a l.length cap]/\DotsIn w a l/\l.length<=maxLen/\(a=none->l=[]/\cap=0):=by
 rcases Deep.open_slice underlying44 h with ⟨rfl,_⟩ | ⟨a,len,cap,m,n,D,Pl,rfl,_,hl,hm,hmm,_,hel⟩
 ·exact ⟨none,[],0,rfl,bb rfl,Nat.zero_le _,fun _=>⟨rfl,rfl⟩⟩
 have hlm:len<=m:=by rw [hmm];split <;> omega
 have hc3:prog.cellsOf 76=3:=by kernel_rfl
 rw [hc3] at hel;obtain ⟨l,hll,hr⟩:=zW (R:=fun i (d:Dot)=>∃ b off,a.add (i * 3)=⟨b,off,none⟩/\w.cell? ⟨b,off,none⟩=some (.int .i64 d.a.dev)/\w.cell? ⟨b,off+1,none⟩=some (.int .i64 d.a.inc)/\w.cell? ⟨b,off+2,none⟩=some (.int .i64 d.seq)) len (fun i hi=>by
  obtain ⟨cs',hcs,ht⟩:=hel i (by omega);obtain ⟨c0,c1,c2,b,off,rfl,hab,h0,h1,h2⟩:=cells3 hcs;obtain ⟨_,_,hA⟩:=bg underlying76 ht 0 _ rfl 2 (by kernel_rfl) [c0,c1] rfl;obtain ⟨_,_,hS⟩:=bg underlying76 ht 1 _ rfl 1 (by kernel_rfl) [c2] rfl;obtain ⟨_,_,hD⟩:=bg underlying74 hA 0 _ rfl 1 (by kernel_rfl) [c0] rfl;obtain ⟨_,_,hI⟩:=bg underlying74 hA 1 _ rfl 1 (by kernel_rfl) [c1] rfl;obtain ⟨x0,e0,_,w0⟩:=DataW.trod_int underlying3 hD;obtain ⟨x1,e1,_,w1⟩:=DataW.trod_int underlying3 hI;obtain ⟨x2,e2,_,w2⟩:=DataW.trod_int underlying3 hS;simp only [List.cons.injEq,and_true] at e0 e1 e2;subst e0 e1 e2;exact ⟨⟨⟨x0,x1⟩,x2⟩,b,off,hab,h0,h1,h2⟩)
 subst hll;refine ⟨some a,l,cap,rfl,?_,by omega,fun h=>by cases h⟩;rcases Nat.eq_zero_or_pos l.length with h0 | h0
 ·exact bb (List.length_eq_zero_iff.1 h0)
 ·right
  obtain ⟨b,off,spot⟩:=a;obtain ⟨b',off',hab,_⟩:=hr 0 h0;have hs:spot=none:=by simp [Addr.add] at hab;exact hab.2.2
  subst hs;refine ⟨b,off,rfl,⟨fun i hi=>?_,fun i hi=>?_,fun i hi=>?_⟩⟩ <;>
  ·obtain ⟨b',off',hab,g0,g1,g2⟩:=hr i hi
   rw [Go.WideShapes.add_plain] at hab;simp only [Addr.mk.injEq,and_true] at hab;obtain ⟨rfl,rfl⟩:=hab;assumption
end
end Go.Proofs.YthphepeniaemoaaGreat
/- Bytes, marks, events and lists of events that came in as arguments. Conditions: none. -/
namespace Go.Proofs.YthphepeniaemoaaGreat
open Go.ChangeShapes Go.WideShapes Go.ChangeAt Go.RowKit
section
variable {H:Type} {enc:TypeId×Value->H} {w:World} {base:Nat} {spare:Nat->Bool} {held:Bool}
theorem RQ {fuel:Nat} {cs:List Value} {x:DataW H×List MemPlace} (hsz:cs.length=19) (hf:DataW.trod enc prog w 0 spare held fuel 82 cs=some x) :
 ∃ (e:Ev) (a:Option Addr) (cap:Nat),cs=az e a cap/\EvIn w a cap e:=by
 obtain ⟨c0,c1,c2,c3,c4,c5,c6,c7,c8,c9,c10,c11,c12,c13,c14,c15,c16,c17,c18,rfl⟩:=Ux hsz;obtain ⟨_,_,hD⟩:=bg underlying82 hf 0 _ rfl 3 (by kernel_rfl) [c0,c1,c2] rfl;obtain ⟨_,_,hS⟩:=bg underlying82 hf 1 _ rfl 3 (by kernel_rfl) [c3,c4,c5] rfl;obtain ⟨_,_,hK⟩:=bg underlying82 hf 2 _ rfl 1 (by kernel_rfl) [c6] rfl;obtain ⟨_,_,hY⟩:=bg underlying82 hf 3 _ rfl 3 (by kernel_rfl) [c7,c8,c9] rfl;obtain ⟨_,_,hC⟩:=bg underlying82 hf 4 _ rfl 8 (by kernel_rfl) [c10,c11,c12,c13,c14,c15,c16,c17] rfl;obtain ⟨_,_,hO⟩:=bg underlying82 hf 5 _ rfl 1 (by kernel_rfl) [c18] rfl;obtain ⟨_,_,hA⟩:=bg underlying76 hD 0 _ rfl 2 (by kernel_rfl) [c0,c1] rfl;obtain ⟨_,_,h0⟩:=bg underlying74 hA 0 _ rfl 1 (by kernel_rfl) [c0] rfl;obtain ⟨x0,e0,_,w0⟩:=DataW.trod_int underlying3 h0;obtain ⟨_,_,h1⟩:=bg underlying74 hA 1 _ rfl 1 (by kernel_rfl) [c1] rfl;obtain ⟨x1,e1,_,w1⟩:=DataW.trod_int underlying3 h1;obtain ⟨_,_,h2⟩:=bg underlying76 hD 1 _ rfl 1 (by kernel_rfl) [c2] rfl;obtain ⟨x2,e2,_,w2⟩:=DataW.trod_int underlying3 h2;obtain ⟨_,_,h3⟩:=bg underlying32 hS 0 _ rfl 1 (by kernel_rfl) [c3] rfl;obtain ⟨x3,e3,_,w3⟩:=DataW.trod_int underlying3 h3;obtain ⟨_,_,h4⟩:=bg underlying32 hS 1 _ rfl 1 (by kernel_rfl) [c4] rfl;obtain ⟨x4,e4,_,w4⟩:=DataW.trod_int underlying3 h4;obtain ⟨_,_,h5⟩:=bg underlying32 hS 2 _ rfl 1 (by kernel_rfl) [c5] rfl;obtain ⟨x5,e5,_,w5⟩:=DataW.trod_int underlying3 h5;obtain ⟨x6,e6,_,w6⟩:=DataW.trod_int underlying3 hK;obtain ⟨_,_,h7⟩:=bg underlying78 hY 0 _ rfl 1 (by kernel_rfl) [c7] rfl;obtain ⟨x7,e7,_,w7⟩:=DataW.trod_string underlying9 h7;obtain ⟨_,_,h8⟩:=bg underlying78 hY 1 _ rfl 1 (by kernel_rfl) [c8] rfl;obtain ⟨x8,e8,_,w8⟩:=DataW.trod_string underlying9 h8;obtain ⟨_,_,h9⟩:=bg underlying78 hY 2 _ rfl 1 (by kernel_rfl) [c9] rfl;obtain ⟨x9,e9,_,w9⟩:=DataW.trod_string underlying9 h9;obtain ⟨_,_,h10⟩:=bg underlying80 hC 0 _ rfl 1 (by kernel_rfl) [c10] rfl;obtain ⟨x10,e10,_,w10⟩:=DataW.trod_string underlying9 h10;obtain ⟨_,_,h11⟩:=bg underlying80 hC 1 _ rfl 1 (by kernel_rfl) [c11] rfl;obtain ⟨x11,e11,_⟩:=DataW.trod_bool underlying4 h11;obtain ⟨_,_,h12⟩:=bg underlying80 hC 2 _ rfl 1 (by kernel_rfl) [c12] rfl;obtain ⟨x12,e12,_⟩:=DataW.trod_bool underlying4 h12
 obtain ⟨_,_,h13⟩:=bg underlying80 hC 3 _ rfl 1 (by kernel_rfl) [c13] rfl;obtain ⟨x13,e13,_⟩:=DataW.trod_bool underlying4 h13;obtain ⟨_,_,h14⟩:=bg underlying80 hC 4 _ rfl 1 (by kernel_rfl) [c14] rfl;obtain ⟨x14,e14,_⟩:=DataW.trod_bool underlying4 h14;obtain ⟨_,_,h15⟩:=bg underlying80 hC 5 _ rfl 1 (by kernel_rfl) [c15] rfl;obtain ⟨x15,e15,_,w15⟩:=DataW.trod_int underlying3 h15;obtain ⟨_,_,h16⟩:=bg underlying80 hC 6 _ rfl 1 (by kernel_rfl) [c16] rfl;obtain ⟨x16,e16,_,w16⟩:=DataW.trod_int underlying3 h16;obtain ⟨_,_,h17⟩:=bg underlying80 hC 7 _ rfl 1 (by kernel_rfl) [c17] rfl;obtain ⟨x17,e17,_,w17⟩:=DataW.trod_int underlying3 h17;obtain ⟨a,l,cap,e18,TZ,hlen,hnil⟩:=NW hO;simp only [List.cons.injEq,and_true] at e0;subst e0;simp only [List.cons.injEq,and_true] at e1;subst e1;simp only [List.cons.injEq,and_true] at e2;subst e2;simp only [List.cons.injEq,and_true] at e3;subst e3;simp only [List.cons.injEq,and_true] at e4;subst e4;simp only [List.cons.injEq,and_true] at e5;subst e5;simp only [List.cons.injEq,and_true] at e6;subst e6;simp only [List.cons.injEq,and_true] at e7;subst e7;simp only [List.cons.injEq,and_true] at e8;subst e8;simp only [List.cons.injEq,and_true] at e9;subst e9;simp only [List.cons.injEq,and_true] at e10;subst e10;simp only [List.cons.injEq,and_true] at e11;subst e11;simp only [List.cons.injEq,and_true] at e12;subst e12;simp only [List.cons.injEq,and_true] at e13;subst e13;simp only [List.cons.injEq,and_true] at e14;subst e14;simp only [List.cons.injEq,and_true] at e15;subst e15;simp only [List.cons.injEq,and_true] at e16;subst e16;simp only [List.cons.injEq,and_true] at e17;subst e17;simp only [List.cons.injEq,and_true] at e18;subst e18;refine ⟨⟨⟨⟨x0,x1⟩,x2⟩,⟨x3,x4,x5⟩,x6,⟨x7,x8,x9⟩,⟨x10,x11,x12,x13,x14,x15,x16,x17⟩,l⟩,a,cap,rfl,⟨TZ,hlen,w7,w8,w9,w10,hnil,?_⟩⟩;intro A off ha hne;rcases TZ with h | ⟨A',off',ha',hd⟩
 ·exact absurd h hne
 ·rw [ha] at ha'
  cases ha'
  exact World.block_lt_of_cell? w _ (hd.dev 0 (List.length_pos_iff.2 hne))
/-- what a list of events that comes in has -/
structure EvsArg (w:World) (a:Option Addr) (ls:List EvIt):Prop where
 evs:EvsIn w a ls
 each:∀ x∈ls,EvIn w x.2.1 x.2.2 x.1
 len:ls.length<=maxLen
 old:∀ A off,a=some ⟨A,off,none⟩->ls≠[]->A<w.heap.size
theorem P7 {fuel:Nat} {cs:List Value} {x:DataW H×List MemPlace} (h:DataW.trod enc prog w 0 spare held fuel 33 cs=some x) :
 ∃ (a:Option Addr) (ls:List EvIt) (cap:Nat),cs=[.slice a ls.length cap]/\EvsArg w a ls:=by
 rcases Deep.open_slice underlying33 h with ⟨rfl,_⟩ | ⟨a,len,cap,m,n,D,Pl,rfl,_,hl,hm,hmm,_,hel⟩
 ·exact ⟨none,[],0,rfl,⟨⟨bb rfl,fun x hx=>by simp at hx⟩,fun x hx=>by simp at hx,Nat.zero_le _,fun _ _ h=>by cases h⟩⟩
 have hlm:len<=m:=by rw [hmm];split <;> omega
 have hc1:prog.cellsOf 82=19:=by kernel_rfl
 rw [hc1] at hel;have hrows:=L8 (a:=a) (n:=19) (len:=len) (by decide) (R:=fun i cs=>cs.length=19->∃ (e:Ev) (a:Option Addr) (cap:Nat),cs=az e a cap/\EvIn w a cap e) (fun i hi=>by
  obtain ⟨cs',hcs,ht⟩:=hel i (by omega);exact ⟨cs',hcs,fun hl=>RQ hl ht⟩)
 rcases hrows with h0 | ⟨A,off,rfl,hr⟩
 ·subst h0
  exact ⟨some a,[],cap,rfl,⟨⟨bb rfl,fun x hx=>by simp at hx⟩,fun x hx=>by simp at hx,Nat.zero_le _,fun _ _ _ h=>absurd rfl h⟩⟩
 ·obtain ⟨ls,hll,hlr⟩:=zW (R:=fun i (x:EvIt)=>w.rangeAt A (off+i * 19) (qj x)/\EvIn w x.2.1 x.2.2 x.1) len (fun i hi=>by
   obtain ⟨cs',hl',hrg,hR⟩:=hr i hi;obtain ⟨e,a,cap,rfl,hE⟩:=hR hl';exact ⟨(e,a,cap),hrg,hE⟩)
  subst hll;have TY:∀ x∈ls,EvIn w x.2.1 x.2.2 x.1:=fun x hx=>by
   obtain ⟨i,hi,rfl⟩:=List.getElem_of_mem hx;exact (hlr i hi).2
  refine ⟨_,ls,cap,rfl,⟨⟨bd ⟨A,off,rfl,fun i hi=>(hlr i hi).1⟩,fun x hx=>(TY x hx).dots⟩,TY,by omega,fun A' off' he hne=>?_⟩⟩
  cases he
  exact World.block_lt_of_cell? w _ ((hlr 0 (List.length_pos_iff.2 hne)).1 0 _ rfl)
end
section
variable {H:Type} {enc:TypeId×Value->H} {w:World} {base:Nat} {spare:Nat->Bool} {held:Bool}
open Go.ChangeShapes Go.WideShapes Go.ChangeAt
end
theorem light_evs {n:Nat} {ls:List EvIt} (h:lightAll n (evsOf ls)=true):ls.length<=n/\EvsSmall ls:=by
 unfold lightAll at h;simp only [Bool.and_eq_true,decide_eq_true_eq,List.all_eq_true] at h;exact ⟨by rw [<- aW];exact h.1,fun x hx=>Ii (h.2 x.1 (List.mem_map_of_mem hx))⟩
theorem Merged.come {s:MS} {l:List Ev} {s':MS} {n:Nat} {f:Int} (h:Merged s l s' n f):∀ x∈s'.K,(∃ y∈s.K,y.1=x.1)\/x.1∈l:=by
 induction h with
 | nil=>exact fun x hx=>bb ⟨x,hx,rfl⟩
 | snoc _ hap ih =>
   intro x hx;split at hap
   ·obtain ⟨a,c,hk⟩:=hap.kept
    rcases List.mem_cons.1 (hk.mem_iff.1 hx) with rfl | hx
    ·exact bd (by simp)
    ·exact (ih x hx).imp id fun h=>by simp [h]
   ·rw [hap] at hx
    exact (ih x hx).imp id fun h=>by simp [h]
theorem MadeIn.kept {w w':World} {m:Nat} {b:MB} {s:MS} {y:RMIt} {l:List Ev} {base:Nat} (h:MadeIn w m b s y l base) (hb:Below w.heap.size w w'):MadeIn w' m b s y l base :=
 ⟨h.map.kept_w hb,h.inv,h.ref.keep hb,h.rel,h.good,h.ctx,h.dead,h.low,h.merged⟩
theorem MadeIn.len {w:World} {m:Nat} {b:MB} {s:MS} {y:RMIt} {l:List Ev} {base:Nat} (h:MadeIn w m b s y l base):s.K.length<=l.length:=by
 have h1:=h.good.kept;rwa [h.rel.kept,gI h.rel.nd] at h1
theorem MadeIn.full {w:World} {m:Nat} {b:MB} {s:MS} {y:RMIt} {l:List Ev} {base:Nat} (h:MadeIn w m b s y l base):FullM s:=by
 obtain ⟨n,f,hM⟩:=h.merged;exact hM.full FullM.empty
/-- the context, told for one who holds the map -/
theorem Tv {m:Nat} {b:MB} {s:MS} (w:World) (h:MpIn w m b s) (hi:MInv s) (hl:s.ctx.length<=4096) :
 Calls prog 95 #[.pointer (some ⟨m,0,none⟩)] w fun e w'=>∃ a c,e=.returned (.slice a s.ctx.length c)/\DotsIn w' a s.ctx/\Below w.heap.size w w':=by
 refine (FU w h hi.ctx (by omega)).mono ?_;rintro e w' ⟨x,rfl,hown,hb⟩;obtain ⟨a,c,rfl,hd⟩:=Eo hown;exact ⟨a,c,rfl,hd,hb⟩
end Go.Proofs.YthphepeniaemoaaGreat
