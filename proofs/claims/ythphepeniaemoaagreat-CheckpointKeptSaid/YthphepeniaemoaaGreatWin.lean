/- Stamps in order: clock.Less, and the reference's. Conditions: none. -/
import Derived.Test.YthphepeniaemoaaGreatDot
import Derived.Test.YthphepeniaemoaaGreatHost
import Derived.Test.YthphepeniaemoaaGreatOrmP
set_option linter.unusedSimpArgs false
set_option linter.unusedVariables false
set_option linter.unnecessarySimpa false
set_option maxHeartbeats 16000000
set_option maxRecDepth 100000
open Go.Proofs.Tryz
namespace Go.Proofs.YthphepeniaemoaaGreat
open Go.RowKit
def Jf (a b:Stamp):Int:=orI (orI (mf a.wall b.wall) (mf a.count b.count)) (mf a.dev b.dev)
def qh (a b:Stamp):Bool:=decide (Jf a b<0)
theorem JS (a b:Stamp):qh a b=if a.wall=b.wall then (if a.count=b.count then decide (a.dev<b.dev) else decide (a.count<b.count)) else decide (a.wall<b.wall):=by
 unfold qh Jf orI mf;repeat' split
 all_goals first | rfl | (simp;omega) | omega
theorem OG (a b:Stamp) (w:World) :
 Calls prog 232 #[.agg #[.int .i64 a.wall,.int .i64 a.count,.int .i64 a.dev],.agg #[.int .i64 b.wall,.int .i64 b.count,.int .i64 b.dev]] w fun e w'=>e=.returned (.int .i64 (orI (mf a.wall b.wall) (mf a.count b.count)))/\Below w.heap.size w w':=by
 go_enter func232,ntmps232;go_wp2;go_region_held3 (fun w'=>w'.cell? ⟨w.heap.size,0,none⟩=some (.int .i64 a.wall)/\w'.cell? ⟨w.heap.size,1,none⟩=some (.int .i64 a.count)/\w'.cell? ⟨w.heap.size+1,0,none⟩=some (.int .i64 b.wall)/\w'.cell? ⟨w.heap.size+1,1,none⟩=some (.int .i64 b.count)) (go_keep)
  (first
   | (go_at_call 233;refine (kL _ _ _).mono ?_;rintro e w1 ⟨rfl,rfl⟩)
   | (go_at_call 230;go_call xU (mf a.wall b.wall) (mf a.count b.count) as e w1 ⟨rfl,rfl⟩))
 go_wp2;go_ret;exact ⟨rfl,by go_grown⟩
theorem Ec (a b:Stamp) (w:World) :
 Calls prog 186 #[.agg #[.int .i64 a.wall,.int .i64 a.count,.int .i64 a.dev],.agg #[.int .i64 b.wall,.int .i64 b.count,.int .i64 b.dev]] w fun e w'=>e=.returned (.bool (qh a b))/\Below w.heap.size w w':=by
 go_enter func186,ntmps186;go_wp2;go_region_held3 (fun w'=>w'.cell? ⟨w.heap.size,0,none⟩=some (.int .i64 a.wall)/\w'.cell? ⟨w.heap.size,1,none⟩=some (.int .i64 a.count)/\w'.cell? ⟨w.heap.size,2,none⟩=some (.int .i64 a.dev)/\w'.cell? ⟨w.heap.size+1,0,none⟩=some (.int .i64 b.wall)/\w'.cell? ⟨w.heap.size+1,1,none⟩=some (.int .i64 b.count)/\w'.cell? ⟨w.heap.size+1,2,none⟩=some (.int .i64 b.dev)) (first | (refine ⟨?_,?_,?_,?_,?_,?_⟩ <;> ((with_reducible refine kept hb ?_);simp [*];done)) | go_keep)
  (first
   | (go_at_call 233;refine (kL _ _ _).mono ?_;rintro e w1 ⟨rfl,rfl⟩)
   | (go_at_call 232;refine (OG a b _).mono ?_;rintro e w1 ⟨rfl,hb⟩)
   | (go_at_call 230;go_call xU (orI (mf a.wall b.wall) (mf a.count b.count)) (mf a.dev b.dev) as e w2 ⟨rfl,rfl⟩))
 go_wp2;go_ret;refine ⟨rfl,?_⟩;have h0:Below w.heap.size w ((w.alloc (Obj.cells #[.int .i64 a.wall,.int .i64 a.count,.int .i64 a.dev] 32)).alloc (Obj.cells #[.int .i64 b.wall,.int .i64 b.count,.int .i64 b.dev] 32)).drew:=by go_grown
 exact ((h0.trans (hb.mono h0.size)).alloc (by have:=(below2 h0 hb).size;omega) _)
theorem z112 {p : Prop} (h : p := by
 go_enter func188, ntmps188
 go_wp2
 go_ret
 exact ⟨au HL.out.symm, by go_grown⟩) : p := h
theorem Ba (a b:Stamp) (w:World) :
 Calls prog 188 #[.agg #[.int .i64 a.wall,.int .i64 a.count,.int .i64 a.dev],.agg #[.int .i64 b.wall,.int .i64 b.count,.int .i64 b.dev]] w fun e w'=>e=.returned (.bool (qh a b))/\Below w.heap.size w w':=by
 have hL:=JS a b;by_cases h1:a.wall=b.wall
 ·rw [if_pos h1] at hL
  have hn1:(a.wall != b.wall)=false:=by rw [bne_eq_false_iff_eq];exact h1
  by_cases h2:a.count=b.count
  ·rw [if_pos h2] at hL
   have hn2:(a.count != b.count)=false:=by rw [bne_eq_false_iff_eq];exact h2
   have HL:=aa hL;clear hL h1 h2
   exact z112
  ·rw [if_neg h2] at hL
   have hn2:(a.count != b.count)=true:=by rw [bne_iff_ne];exact h2
   have HL:=aa hL;clear hL h1 h2
   exact z112
 ·rw [if_neg h1] at hL
  have hn1:(a.wall != b.wall)=true:=by rw [bne_iff_ne];exact h1
  have HL:=aa hL;clear hL h1
  exact z112
def fB (b e:Ev):Ev:=if qh e.stamp b.stamp=true then b else e
def fQ:List Ev->Ev×Bool
 | []=>(ev0,false)
 | x :: r=>(r.foldl fB x,true)
def Vr (r:Ev×Bool) (w:World) (e:Ending) (w':World):Prop:=∃ a c,e=.returned (.tuple #[jD r.1 a c,.bool r.2])/\DotsIn w' a r.1.over/\Below w.heap.size w w'
/-- and the winner's dots lie in a block of dots -/
def TL (r:Ev×Bool) (w:World) (e:Ending) (w':World):Prop:=∃ a c,e=.returned (.tuple #[jD r.1 a c,.bool r.2])/\DotsIn w' a r.1.over/\TypD w' r.1 a/\Below w.heap.size w w'
theorem OL {w:World} {m:Nat} {b:MB} {s:MS} (h:MpIn w m b s) (hi:MInv s) (k:Key):(keyOfS s k).length<=2048/\∀ x∈keyOfS s k,∃ y∈s.K,y.1=x:=by
 have hbd:=(hi.bounds h).2 k;refine ⟨?_,fun x hx=>?_⟩
 ·unfold keyOfS
  rw [List.length_map];exact Nat.le_trans (gG _) hbd
 ·obtain ⟨d,hd,rfl⟩:=List.mem_map.1 hx
  obtain ⟨y,hy,_,h3,_⟩:=(hi.pairs k d).1 (ik.1 (cu.1 hd));refine ⟨y,hy,?_⟩;rw [<- h3];exact (I7 h.kept hy).symm
theorem MInv.overOk {s:MS} (hi:MInv s) {x:EvIt} (hx:x∈s.K):∀ d∈x.1.over,bi d=true:=(dK (hi.kept x hx).1).2.1
/-- a list of right dots lies in no block of an event that is none -/
theorem DotsIn.not0 {w w':World} {R:Nat} {t:TypeId} {f:Nat×Nat} {a:Option Addr} {l:List Dot} (h:DotsIn w a l) (hok:∀ d∈l,bi d=true) (hR:w.heap[R]?=some (.cells (ah ev0 none 0).toArray t f)) (hk:∀ k,k≠R->w'.heap[k]?=w.heap[k]?):DotsIn w' a l:=by
 rcases h with h | ⟨A,off,h1,h2⟩
 ·exact a8 h
 ·cases l with
  | nil=>exact a8 rfl
  | cons d l =>
    have hA:A≠R:=by
        rintro rfl;have h3:=h2.inc 0 (by simp);have h4:=hok d List.mem_cons_self;simp only [bi,jr,Bool.and_eq_true,decide_eq_true_eq] at h4;simp only [World.cell?,hR,List.getElem_cons_zero] at h3;have h5:∀ (o:Nat) (n:Int),(ah ev0 none 0).toArray[o]?=some (.int .i64 n)->n=0:=by
         intro o n ho;match o,ho with
         | 0,ho | 1,ho | 2,ho | 3,ho | 4,ho | 5,ho | 6,ho | 15,ho | 16,ho | 17,ho=>simp [ah,ev0,uC,dW,ck0] at ho;exact ho.symm
         | 7,ho | 8,ho | 9,ho | 10,ho | 11,ho | 12,ho | 13,ho | 14,ho | 18,ho=>simp [ah,ev0,uC,dW,ck0] at ho
         | o+19,ho=>simp [ah] at ho
        have h6:=h5 _ _ (by simpa using h3);omega
    have hkc:∀ o v,w.cell? ⟨A,o,none⟩=some v->w'.cell? ⟨A,o,none⟩=some v:=fun o v hc=>(World.cell?_of_block (hk A hA)).trans hc;exact ba ⟨A,off,h1,⟨fun i hi=>hkc _ _ (h2.dev i hi),fun i hi=>hkc _ _ (h2.inc i hi),fun i hi=>hkc _ _ (h2.seq i hi)⟩⟩
theorem z137 {p : Prop} (h : p := by rwa [List.take_of_length_le (by rw [aQ]; exact aq _)] at h9) : p := h
theorem F5 {m:Nat} {b:MB} {s:MS} (k:Key) (hkw:KeyW k) (w:World) (h:MpIn w m b s) (hi0:MInv s) :
 Calls prog 146 #[.pointer (some ⟨m,0,none⟩),fM k] w (TL (fQ (keyOfS s k)) w):=by
 obtain ⟨iE,hiE,hE0,hE1,hE2⟩:=info_parts Tryz.infoEv;have HK:=aa (fun (X:World) (h:MpIn X m b s)=>Qq k hkw X h hi0);have HL:=aa (fun (x y:Stamp) (X:World)=>Ec x y X);obtain ⟨hkl,hkm⟩:=OL h hi0 k;have HKM:=aa (fun x hx=>by obtain ⟨y,hy,e⟩:=hkm x hx;rw [<- e];exact hi0.overOk hy:∀ x∈keyOfS s k,∀ d∈x.over,bi d=true);clear hkw hi0 hkm;go_enter func146,ntmps146;go_upto_region 1 with fail
 refine aN (fun W hW=>?_);have hbW:Below w.heap.size w W:=by rw [hW.out];go_grown
 have k0:W.cell? ⟨w.heap.size,0,none⟩=some (.string k.name):=by rw [hW.out];go_simp
 have k1:W.cell? ⟨w.heap.size,1,none⟩=some (.string k.domain):=by rw [hW.out];go_simp
 have k2:W.cell? ⟨w.heap.size,2,none⟩=some (.string k.path):=by rw [hW.out];go_simp
 obtain ⟨C,hC,hCs,hCe⟩:∃ C:Array Value,W.heap[w.heap.size+1]?=some (.cells C 82 (0,0))/\C.size=19/\C=(ah ev0 none 0).toArray:=by
  rw [hW.out];exact ⟨_,iH w _ _,rfl,rfl⟩
 have HCE:=aa hCe;clear hCe;have hX:=h.kept_w hbW;clear hW h;go_upto_region 2 with (go_at_call 185;(with_reducible refine (HK.out _ hX).mono ?_);rintro e w1 ⟨aL,ls,cL,rfl,hE,⟨hev,hcap,VV⟩,hb1⟩)
 have hC1:=(hb1.block _ (lt_of_block hC)).trans hC;have rO:Below w.heap.size w w1:=hbW.trans (hb1.mono hbW.size);have hCl:=lt_of_block hC1;have HEV:=aa hev;have hlk:ls.length<=2048:=by
  have h9:=congrArg List.length hev;rw [aQ] at h9;omega
 clear hev hkl hX hb1 hbW k0 k1 k2 hC HK
 cases ls with
 | nil =>
   have hw0:fQ (keyOfS s k)=(ev0,false):=by rw [<- HEV.out];rfl
   have HW:=aa hw0;clear hw0;go_wp2_with (refine wpList_store_row rfl 82 _ _ rfl (w.heap.size+1) (ah ev0 none 0).toArray rfl (by kernel_rfl) 82 C hC1 (by kernel_rfl) hCs (by kernel_rfl) ?_)
   refine ql 4 5 82 82 (w.heap.size+1) (ah ev0 none 0).toArray _ _ rfl rfl rfl (setRow_heap _ _ _ _ _ _ hC1) underlying82 rfl (by kernel_rfl) rfl ?_;rw [HW.out];exact ⟨none,0,rfl,a8 rfl,a8 rfl,below_setRow rO (by omega) _⟩
 | cons x0 rest =>
   have hw0:fQ (keyOfS s k)=((evsOf rest).foldl fB x0.1,true):=by rw [<- HEV.out];rfl
   have HW:=aa hw0;have hne0:((rest.length:Int)+1 == 0)=false:=beq_eq_false_iff_ne.2 (by omega);obtain ⟨A,off,rfl,hra,hda⟩:=hE.at (k:=0) (by simp);have zg:=hE.dots;have r0:=hra 0 (by simp);obtain ⟨e0,a0,c0⟩:=x0;rw [Nat.zero_mul,Nat.add_zero] at r0;simp only [List.getElem_cons_zero,kT] at r0;have hcap2:rest.length+1<=cL:=hcap;have hlr:rest.length+1<=2048:=hlk;obtain ⟨aT,haT⟩:∃ aT,aT=l9 (some ⟨A,off,none⟩) cL 1 19:=⟨_,rfl⟩;have hcut:∀ X,(Instr.sliceAt 33 (.slice (some ⟨A,off,none⟩) (rest.length+1) cL) (some (.int .i64 1)) none none).run prog X=.ok (.slice aT rest.length (cL - 1)) X:=fun X=>by
    have h9:=jY X 33 82 iE (some ⟨A,off,none⟩) (rest.length+1) cL .i64 1 19 underlying33 hiE hE1 (by omega);rw [haT];exact h9
   have HC:=aa hcut;have HT:=aa haT;have HRA:=aa hra;have HDo:=aa zg;have HTy:=aa VV;clear VV;clear hw0 hra hda zg hcut haT hE hcap;go_upto_region 5 with (first
    | ((with_reducible refine bu _ A off e0 a0 c0 r0 ?_ rfl ?_);exact rfl)
    | (refine bK 82 _ _ _ (ah e0 a0 c0).toArray rfl rfl (by kernel_rfl) rfl (by kernel_rfl) ?_))
   obtain ⟨W2,hW2⟩:∃ W2,W2=w1.alloc (.cells (ah e0 a0 c0).toArray 82):=⟨_,rfl⟩;have hb2:Below w1.heap.size w1 W2:=by rw [hW2];exact (bb _ _).alloc (aq _) _
   have hB2:W2.heap[w1.heap.size]?=some (.cells (ah e0 a0 c0).toArray 82 (0,0)):=by rw [hW2];exact bP _ _
   rw [<- hW2];clear hW2 r0;go_wp2_with (refine Af rfl _ (gq _ _ _ _ _ rfl _ (HC.out _)) ?_)
   go_loopw [23] (fun i wr=>∃ (j:Nat) (z:EvIt),i=.int .i64 j/\j<=rest.length/\wr.heap[w1.heap.size]?=some (.cells (ah z.1 z.2.1 z.2.2).toArray 82 (0,0))/\z∈(e0,a0,c0) :: rest/\z.1=((evsOf rest).take j).foldl fB e0/\Below w1.heap.size w1 wr) (fun i _=>rest.length - (intOf i).toNat)
   case atStart=>exact ⟨0,(e0,a0,c0),rfl,Nat.zero_le _,hB2,List.mem_cons_self,rfl,hb2⟩
   case round =>
    obtain ⟨j,⟨z,az,cz⟩,rfl,hj,hBr,hdz,hz0,hbr⟩:=hrel;simp only at hBr hdz hz0;have HZ0:=aa hz0;clear hz0 hB2 hb2;have rz:wr.rangeAt w1.heap.size 0 (ah z az cz):=fun i v hv=>by
        rw [av];simp only [World.cell?,hBr];simpa using hv
    have hzr:=hbr.size;by_cases hlt:j<rest.length
    ·obtain rfl:aT=some ⟨A,off+19,none⟩:=by
      rw [HT.out];unfold l9;rw [if_neg (by omega)];rfl
     have r1:wr.rangeAt A (off+19+j * 19) (kT rest[j]):=by
      have h9:=ai (HRA.out (j+1) (by simp;omega)) hbr;rw [List.getElem_cons_succ,show off+(j+1) * 19=off+19+j * 19 by omega] at h9;exact h9
     have hdr:rest[j]∈(e0,a0,c0) :: rest:=List.mem_cons_of_mem _ (List.getElem_mem hlt);have HS:Hid ((evsOf rest).take (j+1)=(evsOf rest).take j++[rest[j].1]):=by
      exact z46
     have HLT:=aa hlt;generalize rest[j]=y at *;obtain ⟨e,ae,ce⟩:=y;simp only [kT] at r1;simp only at hdr HS;have HD2:=aa (a7 hdr hdz);clear hdr hdz;go_upto_region 8 with (first
      | ((with_reducible refine bu _ A (off+19+j * 19) e ae ce r1 ?_ rfl ?_);exact rfl)
      | (refine bK 82 _ _ _ (ah e ae ce).toArray rfl rfl (by kernel_rfl) rfl (by kernel_rfl) ?_))
     refine aN (fun V hV=>?_);have hbV:Below wr.heap.size wr V:=by rw [hV.out];exact (bb _ _).alloc (aq _) _
     have re:V.rangeAt wr.heap.size 0 (ah e ae ce):=by rw [hV.out];exact dA e ae ce wr _
     have rz2:=ai rz hbV;have hBV:=(hbV.block _ (lt_of_block hBr)).trans hBr;have QW:Below w1.heap.size w1 V:=hbr.trans (hbV.mono hzr);clear hV rz r1 hBr hbr hbV;have e3:=re 3 _ rfl;have e4:=re 4 _ rfl;have e5:=re 5 _ rfl;have z3:=rz2 3 _ rfl;have z4:=rz2 4 _ rfl;have z5:=rz2 5 _ rfl;simp only [av] at e3 e4 e5 z3 z4 z5;have HL1:=fun (X:World)=>HL.out e.stamp z.stamp X
     cases hlt2:qh e.stamp z.stamp with
     | true =>
       rw [hlt2] at HL1;have HLs:=aa HL1;have HN:Hid (z=((evsOf rest).take (j+1)).foldl fB e0):=by
           unfold Hid;rw [HS.out,List.foldl_append,<- HZ0.out];show z=fB z e;unfold fB;rw [hlt2,if_pos rfl]
       clear HL1 hlt2 re rz2;go_wp2_with (go_at_call 186;(with_reducible refine (HLs.out _).mono ?_);rintro v w5 ⟨rfl,hb5⟩)
       have HB:=aa (a7 ((hb5.block _ (lt_of_block hBV)).trans hBV) (QW.trans (hb5.mono QW.size)));go_roundw
       case rel=>exact ⟨j+1,(z,az,cz),by go_num,HLT.out,HB.out.1,HD2.out.2,HN.out,HB.out.2⟩
       case measure => exact z64
     | false =>
       rw [hlt2] at HL1;have HLs:=aa HL1;have HN:Hid (e=((evsOf rest).take (j+1)).foldl fB e0):=by
           unfold Hid;rw [HS.out,List.foldl_append,<- HZ0.out];show e=fB z e;unfold fB;rw [hlt2,if_neg (by decide)]
       clear HL1 hlt2 rz2;go_upto_region 9 with (go_at_call 186;(with_reducible refine (HLs.out _).mono ?_);rintro v w5 ⟨rfl,hb5⟩)
       have re5:=ai re hb5;have hB5:=(hb5.block _ (lt_of_block hBV)).trans hBV;have IJ:Below w1.heap.size w1 w5:=QW.trans (hb5.mono QW.size);clear re hBV QW hb5 e3 e4 e5 z3 z4 z5;go_wp2_with (first
           | ((with_reducible refine bu _ wr.heap.size 0 e ae ce re5 ?_ rfl ?_);exact rfl)
           | (refine wpList_store_row rfl 82 _ _ rfl w1.heap.size (ah e ae ce).toArray rfl rfl 82 _ hB5 (by kernel_rfl) rfl (by kernel_rfl) ?_))
       have HB:=aa (a7 (setRow_heap _ _ _ (ah e ae ce).toArray _ _ hB5) (below_setRow IJ (aq _) (ah e ae ce).toArray));clear hB5 IJ re5;go_roundw
       case rel=>exact ⟨j+1,(e,ae,ce),by go_num,HLT.out,HB.out.1,HD2.out.1,HN.out,HB.out.2⟩
       case measure => exact z64
    ·obtain rfl:j=rest.length:=by omega
     have hzf:z=(evsOf rest).foldl fB e0:=by
      have h9:=HZ0.out
      exact z137
     have HZF:=aa hzf;have hCr:=(hbr.block _ hCl).trans hC1;have hbF:Below w.heap.size w wr:=rO.trans (hbr.mono rO.size);have HD2:=aa hdz;clear hzf hdz;go_wp2_with (first
      | ((with_reducible refine bu _ w1.heap.size 0 z az cz rz ?_ rfl ?_);exact rfl)
      | (refine wpList_store_row rfl 82 _ _ rfl (w.heap.size+1) (ah z az cz).toArray rfl rfl 82 C hCr (by kernel_rfl) hCs (by kernel_rfl) ?_))
     refine ql 4 5 82 82 (w.heap.size+1) (ah z az cz).toArray _ _ rfl rfl rfl (setRow_heap _ _ _ _ _ _ hCr) underlying82 rfl (by kernel_rfl) rfl ?_;rw [HW.out];have hbS:=below_setRow hbF (by omega:w.heap.size<=w.heap.size+1) (ah z az cz).toArray;refine ⟨az,cz,by rw [HZF.out];rfl,?_,?_,hbS⟩;rotate_left
     ·show TypD _ ((evsOf rest).foldl fB e0) az
      rw [<- HZF.out];rcases (HTy.out _ HD2.out).kept hbr with h9 | ⟨A9,o9,cs9,f9,h8,h9⟩
      ·exact a8 h9
      ·refine ba ⟨A9,o9,cs9,f9,h8,(aX _ _ _ _ (fun e9=>?_)).trans h9⟩
       rw [<- e9,hCr] at h9;simp only [Option.some.injEq,Obj.cells.injEq] at h9;exact absurd h9.2.1 (by decide)
     show DotsIn _ az ((evsOf rest).foldl fB e0).over;rw [<- HZF.out];have hmz:z∈keyOfS s k:=by rw [<- HEV.out];exact List.mem_map_of_mem (f:=fun x:EvIt=>x.1) HD2.out
     have hd9:=(HDo.out _ HD2.out).kept hbr;have hCz:=hCr;rw [HCE.out] at hCz;exact hd9.not0 (HKM.out z hmz) hCz (fun k9 hk9=>aX _ _ _ _ (fun e9=>hk9 e9.symm))
end Go.Proofs.YthphepeniaemoaaGreat
