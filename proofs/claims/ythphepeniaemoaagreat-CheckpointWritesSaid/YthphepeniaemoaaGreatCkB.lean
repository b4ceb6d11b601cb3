/- canon: full bytes are loaded again; a nil map has none. Conditions: as in the text. -/
import Derived.Test.YthphepeniaemoaaGreatCanL
import Derived.Test.YthphepeniaemoaaGreatCanA
import Derived.Test.YthphepeniaemoaaGreatReadK
import Derived.Test.YthphepeniaemoaaGreatCkR
import Derived.Lib.ConvBytes
set_option linter.unusedSimpArgs false
set_option linter.unusedVariables false
set_option linter.unnecessarySimpa false
set_option maxHeartbeats 16000000
set_option maxRecDepth 100000
open Go.Proofs.Tryz
namespace Go.Proofs.YthphepeniaemoaaGreat
open Go.RowKit
theorem Dw {mk:List Dot} (h:aZ mk=0) (s:Bytes):jU ⟨ik mk++s,0⟩=(⟨s,0⟩,mk):=by
 obtain ⟨h1,h2⟩:=mV h;unfold jU ik;rw [List.append_assoc,dZ 4096 mk.length _ (by omega) h1];simp only;rw [qN mk s h2];unfold kz;simp [h]
theorem Ei:∀ (l:List Ev) (s:Bytes),(∀ e∈l,dm e=true)->oU l.length ⟨iR l++s,0⟩=(⟨s,0⟩,l)
 | [],s,_=>by simp [oU,iR]
 | e :: l,s,h=>by
   have h1:iR (e :: l)++s=evB e++(iR l++s):=by simp [iR]
   rw [h1,List.length_cons,oU,if_pos rfl,Um (h e (by simp))];simp only [Ei l s (fun x hx=>h x (by simp [hx]))]
theorem Gl {c:List Dot} {K:List Ev} {d:List Dot} (hc:aZ c=0) (hk:K.length<=2048) (hK:∀ e∈K,dm e=true) (hd:d.length<=65536) (hD:∀ x∈d,bn x=true) :
 rD (ik c++aj K.length++iR K++aj d.length++bV d)=(⟨[],0⟩,c,K,d):=by
 have e1:=Dw hc (aj K.length++(iR K++(aj d.length++bV d)));have e2:=dZ 2048 K.length (iR K++(aj d.length++bV d)) (by omega) hk;have e3:=Ei K (aj d.length++bV d) hK;have e4:=dZ 65536 d.length (bV d) (by omega) hd;have e5:=qN d [] hD;rw [List.append_nil] at e5;unfold rD;simp only [List.append_assoc,e1,e2,e3,e4,e5]
/-- '[]byte(s)': new bytes -/
theorem OT (X:World) (l:Bytes):∃ c W',(convert 9 54 (.string (mkS l))).run prog X=.ok (.slice (some ⟨X.heap.size,0,none⟩) l.length c) W'/\Below X.heap.size X W'/\BytesIn W' (some ⟨X.heap.size,0,none⟩) l/\l.length<=c:=by
 have h:=Lib.run_convert_string_bytes X 9 54 5 (mkS l) underlying9 underlying54 underlying5;refine ⟨_,_,h,⟨rfl,rfl,rfl,by rw [Lib.bytesWorld_size];omega,fun k hk=>Lib.bytesWorld_at_old _ _ _ _ hk⟩,bd ⟨_,_,rfl,fun j hj=>?_⟩,?_⟩
 ·rw [aw,Lib.bytesWorld_cell X 5 (mkS l) j hj]
  simp [mkS,hj]
 ·exact Go.grownCap_ge _ _ _ _
/-- block X holds a snapshot -/
def SnBlk (w:World) (X:Nat) (d i:Int) (s:Stamp) (v:Value):Prop:=w.heap[X]?=some (.cells (snA d i s v) 42 (0,0))
section
variable {w w':World} {X:Nat} {d i:Int} {s:Stamp} {v:Value}
theorem SnBlk.lt (h:SnBlk w X d i s v):X<w.heap.size:=lt_of_block h
theorem SnBlk.below (h:SnBlk w X d i s v) (hb:Below w.heap.size w w'):SnBlk w' X d i s v:=(hb.block _ h.lt).trans h
theorem SnBlk.fr {S:Nat->Prop} (h:SnBlk w X d i s v) (hf:Fr S w w') (hs:¬ S X):SnBlk w' X d i s v:=(hf.block _ h.lt hs).trans h
theorem SnBlk.range (h:SnBlk w X d i s v):w.rangeAt X 0 (lU d i s v):=fun j u hu=>by
 rw [aw];simp only [World.cell?,show w.heap[X]?=_ from h];simpa using hu
theorem SnBlk.free (h:SnBlk w X d i s v) (o:Nat):w.frozen? ⟨X,o,none⟩=false:=by
 simp [World.frozen?,show w.heap[X]?=_ from h]
theorem SnBlk.there2 (h:SnBlk w X d i s v):w.there X 2 3:=fun j hj=>by
 refine ⟨?_,h.free _⟩;have hlt:2+j<(lU d i s v).length:=by simp;omega
 have:=h.range (2+j) _ (List.getElem?_eq_getElem hlt);rw [aw] at this;rw [this];rfl
theorem SnBlk.set2 (h:SnBlk w X d i s v) (t:Stamp):SnBlk (w.setCells X 2 [.int .i64 t.wall,.int .i64 t.count,.int .i64 t.dev]) X d i t v:=by
 simp [SnBlk,World.setCells,World.setCell,Array.getElem?_modify,show w.heap[X]?=_ from h]
theorem SnBlk.set5 (h:SnBlk w X d i s v) (u:Value):SnBlk (w.setCell ⟨X,5,none⟩ u) X d i s u:=by
 simp [SnBlk,World.setCell,Array.getElem?_modify,show w.heap[X]?=_ from h]
theorem MpIn.cellAt {m:Nat} {b:MB} {t:MS} {lo:Nat} (h:MpIn w m b t) (hx:SnBlk w X d i s v) (hX:X<lo) (hk:∀ q,q≠X->w'.heap[q]?=w.heap[q]?) (hf:∀ q,foot b t.A q->lo<=q) (ho:∀ x∈t.K,Jt lo x):MpIn w' m b t:=by
 have hx':w.heap[X]?=Option.some (.cells (snA d i s v) 42 (0,0)):=hx;have hm:m≠X:=fun e=>by have:=h.cell;rw [e,hx'] at this;simp at this
 have hv:b.v≠X:=fun e=>by have:=h.vec.cell;rw [e,hx'] at this;simp at this
 have g:∀ k,foot b t.A k->k≠X:=fun k hk=>by have:=hf k hk;omega
 exact ⟨(hk m hm).trans h.cell,h.vec.block (hk _ hv) (hk _ (g _ (uy b _))),h.kept.block (hk _ (g _ (jT b _))),fun x hx=>(h.overs x hx).keep (fun A off h1 h2=>hk A (by have:=ho x hx A off h1 h2;omega)),h.dead.block (hk _ (g _ (jh b _))),h.alive.block (hk _ (g _ (iO b _))),fun p hp=>(h.inner p hp).block (hk _ (g _ (lN b hp))),h.some,h.keys,h.nodup⟩
end
/-- the error that Parse answers -/
def ckE (e0:Int) (r r':Rd) (ld:Int):Int:=if e0=0 then (if jl r=0 then (if jl r'=0 then ld else jl r') else jl r) else e0
def st0:Stamp:=⟨0,0,0⟩
/-- behind Parse -/
def Va (e:Int) (dev inc:Nat) (st:Stamp) (c:List Dot) (K:List Ev) (d:List Dot) (w:World) (x:Ending) (w':World):Prop :=
 (e≠0->x=.returned (.tuple #[.agg (snA 0 0 st0 (.pointer none)),.int .i64 e])) /\
 (e=0->∃ m b s,x=.returned (.tuple #[.agg (snA dev inc st (.pointer (some ⟨m,0,none⟩))),.int .i64 0])/\MpIn w' m b s/\MInv s/\Rel s ⟨c,K,d⟩/\s.dead.length<=d.length/\(∀ x∈s.K,x.1∈K)/\(∀ q,foot b s.A q->w.heap.size<=q)/\∀ x∈s.K,Jt w.heap.size x)/\Below w.heap.size w w'
theorem z85 {p : Prop} (h : p := by
 rw [HC.out]
 exact ⟨fun _ => rfl, fun e9 => absurd e9 HNE.out, below_setRow hbt (ar _) _⟩) : p := h
theorem y70 {p q : Prop} (k : q) (h : PLift q -> p := by
 intro kk
 refine aI (fun W11 zS => ?_)
 have hZ : SnBlk W11 w.heap.size 0 0 st0 (.pointer none) := by rw [zS.out]; exact (heap_setCell_other _ _ _ _ (by simp only; omega)).trans (hZ9.below zQ)
 have hbt : Below w.heap.size w W11 := by rw [zS.out]; exact (below2 hb9 zQ).setCell (by simp only; omega) _
 revert W11 zS hZ hbt
 exact kk.down) : p := h ⟨k⟩
theorem Je (a:Option Addr) (cap:Nat) (l:Bytes) (w:World) (hl:l.length<=1073741824) (hcap:l.length<=cap) (h:BytesIn w a l) {body full:Bytes} {e0:Int} (h1:zl l=(body,e0)) {r r':Rd} {dev inc:Nat} {st:Stamp} (h2:CY body=(r,dev,inc,st,full)) {c:List Dot} {K:List Ev} {d:List Dot} (h3:rD full=(r',c,K,d)) :
 Calls prog 49 #[.slice a l.length cap] w (Va (ckE e0 r r' (kP c K d)) dev inc st c K d w):=by
 have HO0:=fun (W:World) (h:BytesIn W a l)=>Gu a cap l W hl hcap h;have hfit:=yF l;have hbl:e0=0->body.length<=1048576:=fun he=>by
  rw [<- show (zl l).1=body by rw [h1]];unfold zl;have:=yF l;split
  ·split
   ·simp
   ·simp only;omega
  ·simp
 rw [h1] at HO0;unfold LJ at HO0;simp only at HO0;have HO:=aq HO0;clear HO0 hfit h1;go_enter func49,ntmps49;go_upto_region 1 with fail
 refine aI (fun W hW=>?_);have hbt:Below w.heap.size w W:=by rw [hW.out];exact (bh _ _).alloc (ar _) _
 have hZ:SnBlk W w.heap.size 0 0 st0 (.pointer none):=by rw [hW.out];exact heap_alloc_last w _
 have hin:=h.kept hbt;clear hW h;by_cases he0:e0=0
 case neg =>
  have HC:Hid (ckE e0 r r' (kP c K d)=e0):=by unfold Hid ckE;rw [if_neg he0]
  have HNE:=aq he0;have q1:(e0 == 0)=false:=beq_eq_false_iff_ne.2 he0;have q2:(e0 != 0)=true:=by rw [bne_iff_ne];exact he0
  clear he0 hbl;go_upto_region 3 with (go_at_call 87;(with_reducible refine (HO.out _ hin).mono ?_);rintro x w1 ⟨v,rfl,hown,hb⟩)
  replace hZ:=hZ.below hb;replace hbt:=below2 hbt hb;clear hb hown hin;go_wp2_with (refine wpList_store_row rfl 42 _ _ rfl w.heap.size (snA 0 0 st0 (.pointer none)) rfl rfl 42 (snA 0 0 st0 (.pointer none)) hZ (by kernel_rfl) rfl (by kernel_rfl) ?_)
  refine iZ 2 3 42 42 w.heap.size (snA 0 0 st0 (.pointer none)) _ (.int .i64 e0) rfl rfl rfl (setRow_heap _ _ _ _ _ _ hZ) underlying42 rfl (by kernel_rfl) rfl ?_
  exact z85
 case pos =>
 subst he0;have XZ:=hbl rfl;clear hbl;have f1:=dA 63 ⟨body,0⟩;have N1':∀ (R:Nat) (W:World),RdAt W R ⟨body,0⟩->Calls prog 89 #[.pointer (some ⟨R,0,none⟩),.int .u64 63] W (gV R (bQ 63 ⟨body,0⟩).1 (.int .u64 (bQ 63 ⟨body,0⟩).2) W):=fun R W h=>oQ R ⟨body,0⟩ 63 W (by simp only;omega) (by omega) h;obtain ⟨r1,n1,g1⟩:∃ x y,bQ 63 ⟨body,0⟩=(x,y):=⟨_,_,rfl⟩;rw [g1] at f1 N1';simp only at f1 N1';have f2:=dA 1048576 r1;have N2':∀ (R:Nat) (W:World),RdAt W R r1->Calls prog 89 #[.pointer (some ⟨R,0,none⟩),.int .u64 1048576] W (gV R (bQ 1048576 r1).1 (.int .u64 (bQ 1048576 r1).2) W):=fun R W h=>oQ R r1 1048576 W (by omega) (by omega) h;obtain ⟨r2,n2,g2⟩:∃ x y,bQ 1048576 r1=(x,y):=⟨_,_,rfl⟩;rw [g2] at f2 N2';simp only at f2 N2';have f3:=vg r2;have N3':∀ (R:Nat) (W:World),RdAt W R r2->Calls prog 90 #[.pointer (some ⟨R,0,none⟩)] W (gV R (gQ r2).1 (lT (gQ r2).2) W):=fun R W h=>CX R r2 W (by omega) h;obtain ⟨r3,s3,g3⟩:∃ x y,gQ r2=(x,y):=⟨_,_,rfl⟩;rw [g3] at f3 N3';simp only at f3 N3';have f4:=eu 1048576 r3;have N4':∀ (R:Nat) (W:World),RdAt W R r3->Calls prog 91 #[.pointer (some ⟨R,0,none⟩),.int .i64 1048576] W (gV R (aV 1048576 r3).1 (.string (mkS (aV 1048576 r3).2)) W):=fun R W h=>Dc R r3 1048576 W (by omega) (by omega) h;obtain ⟨r4,t4,g4⟩:∃ x y,aV 1048576 r3=(x,y):=⟨_,_,rfl⟩;rw [g4] at f4 N4';simp only at f4 N4';have hxx:CY body=(r4,n1,n2,s3,t4):=by unfold CY;simp only [g1,g2,g3,g4]
 rw [hxx] at h2;simp only [Prod.mk.injEq] at h2;obtain ⟨rfl,rfl,rfl,rfl,rfl⟩:=h2;have N1:=aq N1';have N2:=aq N2';have N3:=aq N3';have N4:=aq N4';have N5:=aq (fun (R:Nat) (W:World) (h:RdAt W R r4)=>Ui R r4 W h (by omega));have b1:=f1.2;have b2:=f2.2;have b4:=f4.2;clear N1' N2' N3' N4' g1 g2 g3 g4 f1 f2 f3 f4 hxx;have HC3:=aq h3;clear h3;go_upto_region 4 with (go_at_call 87;(with_reducible refine (HO.out _ hin).mono ?_);rintro x w1 ⟨v,rfl,hown,hb⟩)
 obtain ⟨ab,cb,rfl,Ov⟩:=bP hown;have hcb:=Hy hown;have hRP:=aq (wX ab cb body w1 Ov hcb);replace hZ:=hZ.below hb;replace hbt:=below2 hbt hb;have hZw:=hZ.lt;clear hb hown hin Ov HO;go_upto_region 5 with (go_at_call 88;(with_reducible refine hRP.out.mono ?_);rintro x w2 ⟨rfl,hR2,hb2⟩)
 replace hZ:=hZ.below hb2;replace hbt:=below2 hbt hb2;have hRl:=hR2.lt;obtain ⟨R,hRR⟩:∃ R,R=w1.heap.size:=⟨_,rfl⟩;rw [<- hRR] at hR2 hZw hRl ⊢;clear hRP hb2 hRR;go_upto_region 6 with (first
  | (go_at_call 89;(with_reducible refine (N1.out _ _ hR2).mono ?_);rintro x w3 ⟨rfl,hR3,hF3⟩;clear hR2)
  | (go_at_call 89;(with_reducible refine (N2.out _ _ hR3).mono ?_);rintro x w4 ⟨rfl,hR4,hF4⟩;clear hR3)
  | (refine cZ 42 _ _ _ (snA n1 n2 st0 (.pointer none)) rfl rfl (by kernel_rfl) rfl (by kernel_rfl) ?_))
 have U2:=hF3.again hF4;have hz4:=U2.size;refine aI (fun W5 hW5=>?_);have hb5:Below w4.heap.size w4 W5:=by rw [hW5.out];exact (bh _ _).alloc (ar _) _
 have hX:SnBlk W5 w4.heap.size n1 n2 st0 (.pointer none):=by rw [hW5.out];exact heap_alloc_last w4 _
 have hF5:=U2.again (Fr.of_below hb5);have hR5:=hR4.below hb5;have hXl:=hX.lt;obtain ⟨X,hXX⟩:∃ X,X=w4.heap.size:=⟨_,rfl⟩;rw [<- hXX] at hX hXl ⊢;have hRX:R<X:=by omega
 replace hZ:=hZ.fr hF5 (by simp only [isR];omega);replace hbt:=hbt.trans (hF5.below (B:=w.heap.size) (by omega) (fun k hk=>by simp only [isR] at hk;omega));clear hW5 hb5 hF3 hF4 U2 hR4 N1 N2 hXX hz4 hF5;go_upto_region 7 with (first
  | (go_at_call 90;(with_reducible refine (N3.out _ _ hR5).mono ?_);rintro x w6 ⟨rfl,hR6,hF6⟩;have hX6:=hX.fr hF6 (by simp only [isR];omega))
  | (refine wpList_store_mid rfl 32 _ _ rfl X 2 #[.int .i64 s3.wall,.int .i64 s3.count,.int .i64 s3.dev] rfl rfl hX6.there2 (by kernel_rfl) (by kernel_rfl) ?_))
 refine aI (fun W7 hW7=>?_);have hX7:SnBlk W7 X n1 n2 s3 (.pointer none):=by rw [hW7.out];exact hX6.set2 s3
 have hF7:Fr (rX R X) W5 W7:=by rw [hW7.out];exact (qV hF6).setCells (bd (bd rfl)) _ _
 have hR7:RdAt W7 R r3:=by rw [hW7.out];exact hR6.keep (fun k hk=>heap_setCells_other _ _ _ _ _ (fun e=>by have:X=k:=e;omega))
 replace hZ:=hZ.fr hF7 (by simp only [rX];omega);replace hbt:=hbt.trans (hF7.below (B:=w.heap.size) hbt.size (fun k hk=>by simp only [rX] at hk;have:=hbt.size;omega));clear hW7 hX6 hR6 hF6 hF7 hX hR5 N3;go_upto_region 8 with (go_at_call 91;(with_reducible refine (N4.out _ _ hR7).mono ?_);rintro x w8 ⟨rfl,hR8,hF8⟩)
 have hX8:=hX7.fr hF8 (by simp only [isR];omega);replace hZ:=hZ.fr hF8 (by simp only [isR];omega);replace hbt:=hbt.trans (hF8.below (B:=w.heap.size) hbt.size (fun k hk=>by simp only [isR] at hk;have:=hbt.size;omega));have Wj:=hX8.lt;have hzw:=hbt.size;have hwX:w.heap.size<X:=by omega
 clear hX7 hR7 hF8 N4 hXl;go_upto_region 9 with (go_at_call 92;(with_reducible refine (N5.out _ _ hR8).mono ?_);rintro x w9 ⟨rfl,rfl⟩)
 by_cases he4:jl r4=0
 case neg =>
  have HC:Hid (ckE 0 r4 r' (kP c K d)=jl r4):=by unfold Hid ckE;rw [if_pos rfl,if_neg he4]
  have HNE:=aq he4;have q1:(jl r4 == 0)=false:=beq_eq_false_iff_ne.2 he4;have q2:(jl r4 != 0)=true:=by rw [bne_iff_ne];exact he4
  clear he4;go_wp2_with (refine wpList_store_row rfl 42 _ _ rfl w.heap.size (snA 0 0 st0 (.pointer none)) rfl rfl 42 (snA 0 0 st0 (.pointer none)) hZ (by kernel_rfl) rfl (by kernel_rfl) ?_)
  refine iZ 2 3 42 42 w.heap.size (snA 0 0 st0 (.pointer none)) _ (.int .i64 (jl r4)) rfl rfl rfl (setRow_heap _ _ _ _ _ _ hZ) underlying42 rfl (by kernel_rfl) rfl ?_
  exact z85
 case pos =>
 have q1:(jl r4 == 0)=true:=beq_iff_eq.2 he4;have q2:(jl r4 != 0)=false:=by rw [bne_eq_false_iff_eq];exact he4
 have HE4:=aq he4;clear he4 N5 hR8;go_upto_region 11 with fail
 obtain ⟨cc,W',hcv,hbC,VS,hcC⟩:=OT w8 t4;have hL0:=Lr (some ⟨w8.heap.size,0,none⟩) cc t4 W' (by omega) hcC VS HC3.out;unfold RetCLZ at hL0;have hX9:=hX8.below hbC;have hZ9:=hZ.below hbC;have hb9:=below2 hbt hbC;have hlo:X<W'.heap.size:=Nat.lt_of_lt_of_le Wj hbC.size;clear VS hcC hX8 hZ hbt Wj q1 q2;have hXr:=fun (V:World) (h:Below W'.heap.size W' V)=>hX9.below h;by_cases hr9:jl r'=0
 case neg =>
  have HC:Hid (ckE 0 r4 r' (kP c K d)=jl r'):=by unfold Hid ckE;rw [if_pos rfl,if_pos HE4.out,if_neg hr9]
  simp only [if_neg hr9] at hL0;have hne:=hr9;clear hr9;have HL:Hid (Calls prog 93 #[.slice (some ⟨w8.heap.size,0,none⟩) t4.length cc] W' fun x w'=>x=.returned (.tuple #[.pointer none,.int .i64 (jl r')])/\Below W'.heap.size W' w'):=aq hL0;have HNE:=aq hne;have q1:(jl r' == 0)=false:=beq_eq_false_iff_ne.2 hne;have q2:(jl r' != 0)=true:=by rw [bne_iff_ne];exact hne
  clear hL0 hne hXr;go_upto_region 12 with (go_at_call 93;(with_reducible refine HL.out.mono ?_);rintro x w10 ⟨rfl,zQ⟩;have yu:=hX9.below zQ;have c5:w10.cell? ⟨X,5,none⟩=some (.pointer none):=(by have:=yu.range 5 _ rfl;rwa [aw] at this);have c5f:=yu.free 5)
  refine y70 ?_
  intro W11 zS hZ hbt
  clear zS yu zQ hX9 hZ9 hb9 c5 c5f
  go_wp2_with (refine wpList_store_row rfl 42 _ _ rfl w.heap.size (snA 0 0 st0 (.pointer none)) rfl rfl 42 (snA 0 0 st0 (.pointer none)) hZ (by kernel_rfl) rfl (by kernel_rfl) ?_)
  refine iZ 2 3 42 42 w.heap.size (snA 0 0 st0 (.pointer none)) _ (.int .i64 (jl r')) rfl rfl rfl (setRow_heap _ _ _ _ _ _ hZ) underlying42 rfl (by kernel_rfl) rfl ?_
  exact z85
 case pos =>
 by_cases hld:kP c K d=0
 case neg =>
  have HC:Hid (ckE 0 r4 r' (kP c K d)=kP c K d):=by unfold Hid ckE;rw [if_pos rfl,if_pos HE4.out,if_pos hr9]
  simp only [if_pos hr9,if_neg hld] at hL0;have hne:=hld;clear hr9 hld;have HL:Hid (Calls prog 93 #[.slice (some ⟨w8.heap.size,0,none⟩) t4.length cc] W' fun x w'=>x=.returned (.tuple #[.pointer none,.int .i64 (kP c K d)])/\Below W'.heap.size W' w'):=aq hL0;have HNE:=aq hne;have q1:(kP c K d == 0)=false:=beq_eq_false_iff_ne.2 hne;have q2:(kP c K d != 0)=true:=by rw [bne_iff_ne];exact hne
  clear hL0 hne hXr;go_upto_region 12 with (go_at_call 93;(with_reducible refine HL.out.mono ?_);rintro x w10 ⟨rfl,zQ⟩;have yu:=hX9.below zQ;have c5:w10.cell? ⟨X,5,none⟩=some (.pointer none):=(by have:=yu.range 5 _ rfl;rwa [aw] at this);have c5f:=yu.free 5)
  refine y70 ?_
  intro W11 zS hZ hbt
  clear zS yu zQ hX9 hZ9 hb9 c5 c5f
  go_wp2_with (refine wpList_store_row rfl 42 _ _ rfl w.heap.size (snA 0 0 st0 (.pointer none)) rfl rfl 42 (snA 0 0 st0 (.pointer none)) hZ (by kernel_rfl) rfl (by kernel_rfl) ?_)
  refine iZ 2 3 42 42 w.heap.size (snA 0 0 st0 (.pointer none)) _ (.int .i64 (kP c K d)) rfl rfl rfl (setRow_heap _ _ _ _ _ _ hZ) underlying42 rfl (by kernel_rfl) rfl ?_
  exact z85
 case pos =>
 have HC:Hid (ckE 0 r4 r' (kP c K d)=0):=by unfold Hid ckE;rw [if_pos rfl,if_pos HE4.out,if_pos hr9];exact hld
 simp only [if_pos hr9,if_pos hld] at hL0;have HL:=aq hL0;clear hL0 hr9 hld hXr;go_upto_region 12 with (go_at_call 93;(with_reducible refine HL.out.mono ?_);rintro x w10 ⟨m,bm,t,rfl,hm,hiv,hrel,hdl,hmem,zQ,hfo,hlw⟩;have yu:=hX9.below zQ;have c5:w10.cell? ⟨X,5,none⟩=some (.pointer none):=(by have:=yu.range 5 _ rfl;rwa [aw] at this);have c5f:=yu.free 5)
 refine aI (fun W11 zS=>?_);have hk:∀ q,q≠X->W11.heap[q]?=w10.heap[q]?:=fun q hq=>by rw [zS.out];exact heap_setCell_other _ _ _ _ (fun e=>hq e.symm)
 have Wl:SnBlk W11 X n1 n2 s3 (.pointer (some ⟨m,0,none⟩)):=by rw [zS.out];exact yu.set5 _
 have Xc:=hm.cellAt yu hlo hk hfo hlw;have hZ:SnBlk W11 w.heap.size 0 0 st0 (.pointer none):=(hk _ (by omega)).trans (hZ9.below zQ);have hbt:Below w.heap.size w W11:=by rw [zS.out];exact (below2 hb9 zQ).setCell (by simp only;omega) _
 have hrg:=Wl.range;clear zS yu zQ hX9 hZ9 hb9 c5 c5f hk Wl hm;go_wp2_with (first
  | ((with_reducible refine bT 42 _ X 0 (lU n1 n2 s3 (.pointer (some ⟨m,0,none⟩))) (.agg (snA n1 n2 s3 (.pointer (some ⟨m,0,none⟩)))) rfl _ underlying42 rfl (by kernel_rfl) hrg ?_ rfl ?_);exact rfl)
  | (refine wpList_store_row rfl 42 _ _ rfl w.heap.size (snA n1 n2 s3 (.pointer (some ⟨m,0,none⟩))) rfl rfl 42 (snA 0 0 st0 (.pointer none)) hZ (by kernel_rfl) rfl (by kernel_rfl) ?_))
 refine iZ 2 3 42 42 w.heap.size (snA n1 n2 s3 (.pointer (some ⟨m,0,none⟩))) _ (.int .i64 0) rfl rfl rfl (setRow_heap _ _ _ _ _ _ hZ) underlying42 rfl (by kernel_rfl) rfl ?_;rw [HC.out];exact ⟨fun e9=>absurd rfl e9,fun _=>⟨m,bm,t,rfl,Xc.cellAt hZ (by omega) (fun q hq=>bi _ _ _ _ (fun e=>hq e.symm)) hfo hlw,hiv,hrel,hdl,hmem,fun q hq=>by have:=hfo q hq;omega,fun x hx A off h1 h2=>by have:=hlw x hx A off h1 h2;omega⟩,below_setRow hbt (ar _) _⟩
end Go.Proofs.YthphepeniaemoaaGreat
