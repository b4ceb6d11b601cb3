/- canon: full bytes are loaded again; a nil map has none. Conditions: as in the text. -/
import Derived.Test.YthphepeniaemoaaGreatCanL
import Derived.Test.YthphepeniaemoaaGreatCanA
import Derived.Test.YthphepeniaemoaaGreatReadK
import Derived.Test.YthphepeniaemoaaGreatCkR
import Derived.Lib.ConvBytes
set_option linter.unusedSimpArgs false
set_option linter.unusedVariables false
set_option linter.unnecessarySimpa false
set_option maxHeartbeats 16000000
set_option maxRecDepth 100000
open Go.Proofs.Tryz
namespace Go.Proofs.YthphepeniaemoaaGreat
open Go.RowKit
theorem DL {mk:List Dot} (h:aZ mk=0) (s:Bytes):jZ ⟨kQ mk++s,0⟩=(⟨s,0⟩,mk):=by
 obtain ⟨h1,h2⟩:=wH h;unfold jZ kQ;rw [List.append_assoc,dV 4096 mk.length _ (by omega) h1];simp only;rw [qo mk s h2];unfold kH;simp [h]
theorem Eo:∀ (l:List Ev) (s:Bytes),(∀ e∈l,dC e=true)->oC l.length ⟨l7 l++s,0⟩=(⟨s,0⟩,l)
 | [],s,_=>by simp [oC,l7]
 | e :: l,s,h=>by
   have h1:l7 (e :: l)++s=evB e++(l7 l++s):=by simp [l7]
   rw [h1,List.length_cons,oC,if_pos rfl,UA (h e (by simp))];simp only [Eo l s (fun x hx=>h x (by simp [hx]))]
theorem Gu {c:List Dot} {K:List Ev} {d:List Dot} (hc:aZ c=0) (hk:K.length<=2048) (hK:∀ e∈K,dC e=true) (hd:d.length<=65536) (hD:∀ x∈d,bi x=true) :
 qJ (kQ c++aU K.length++l7 K++aU d.length++dS d)=(⟨[],0⟩,c,K,d):=by
 have e1:=DL hc (aU K.length++(l7 K++(aU d.length++dS d)));have e2:=dV 2048 K.length (l7 K++(aU d.length++dS d)) (by omega) hk;have e3:=Eo K (aU d.length++dS d) hK;have e4:=dV 65536 d.length (dS d) (by omega) hd;have e5:=qo d [] hD;rw [List.append_nil] at e5;unfold qJ;simp only [List.append_assoc,e1,e2,e3,e4,e5]
/-- '[]byte(s)': new bytes -/
theorem Pn (X:World) (l:Bytes):∃ c W',(convert 9 54 (.string (mkS l))).run prog X=.ok (.slice (some ⟨X.heap.size,0,none⟩) l.length c) W'/\Below X.heap.size X W'/\BytesIn W' (some ⟨X.heap.size,0,none⟩) l/\l.length<=c:=by
 have h:=Lib.run_convert_string_bytes X 9 54 5 (mkS l) underlying9 underlying54 underlying5;refine ⟨_,_,h,⟨rfl,rfl,rfl,by rw [Lib.bytesWorld_size];omega,fun k hk=>Lib.bytesWorld_at_old _ _ _ _ hk⟩,ba ⟨_,_,rfl,fun j hj=>?_⟩,?_⟩
 ·rw [av,Lib.bytesWorld_cell X 5 (mkS l) j hj]
  simp [mkS,hj]
 ·exact Go.grownCap_ge _ _ _ _
/-- block X holds a snapshot -/
def SnBlk (w:World) (X:Nat) (d i:Int) (s:Stamp) (v:Value):Prop:=w.heap[X]?=some (.cells (snA d i s v) 42 (0,0))
section
variable {w w':World} {X:Nat} {d i:Int} {s:Stamp} {v:Value}
theorem SnBlk.lt (h:SnBlk w X d i s v):X<w.heap.size:=lt_of_block h
theorem SnBlk.below (h:SnBlk w X d i s v) (hb:Below w.heap.size w w'):SnBlk w' X d i s v:=(hb.block _ h.lt).trans h
theorem SnBlk.fr {S:Nat->Prop} (h:SnBlk w X d i s v) (hf:Fr S w w') (hs:¬ S X):SnBlk w' X d i s v:=(hf.block _ h.lt hs).trans h
theorem SnBlk.range (h:SnBlk w X d i s v):w.rangeAt X 0 (ny d i s v):=fun j u hu=>by
 rw [av];simp only [World.cell?,show w.heap[X]?=_ from h];simpa using hu
theorem SnBlk.free (h:SnBlk w X d i s v) (o:Nat):w.frozen? ⟨X,o,none⟩=false:=by
 simp [World.frozen?,show w.heap[X]?=_ from h]
theorem SnBlk.there2 (h:SnBlk w X d i s v):w.there X 2 3:=fun j hj=>by
 refine ⟨?_,h.free _⟩;have hlt:2+j<(ny d i s v).length:=by simp;omega
 have:=h.range (2+j) _ (List.getElem?_eq_getElem hlt);rw [av] at this;rw [this];rfl
theorem SnBlk.set2 (h:SnBlk w X d i s v) (t:Stamp):SnBlk (w.setCells X 2 [.int .i64 t.wall,.int .i64 t.count,.int .i64 t.dev]) X d i t v:=by
 simp [SnBlk,World.setCells,World.setCell,Array.getElem?_modify,show w.heap[X]?=_ from h]
theorem SnBlk.set5 (h:SnBlk w X d i s v) (u:Value):SnBlk (w.setCell ⟨X,5,none⟩ u) X d i s u:=by
 simp [SnBlk,World.setCell,Array.getElem?_modify,show w.heap[X]?=_ from h]
theorem MpIn.cellAt {m:Nat} {b:MB} {t:MS} {lo:Nat} (h:MpIn w m b t) (hx:SnBlk w X d i s v) (hX:X<lo) (hk:∀ q,q≠X->w'.heap[q]?=w.heap[q]?) (hf:∀ q,foot b t.A q->lo<=q) (ho:∀ x∈t.K,Jz lo x):MpIn w' m b t:=by
 have hx':w.heap[X]?=Option.some (.cells (snA d i s v) 42 (0,0)):=hx;have hm:m≠X:=fun e=>by have:=h.cell;rw [e,hx'] at this;simp at this
 have hv:b.v≠X:=fun e=>by have:=h.vec.cell;rw [e,hx'] at this;simp at this
 have g:∀ k,foot b t.A k->k≠X:=fun k hk=>by have:=hf k hk;omega
 exact ⟨(hk m hm).trans h.cell,h.vec.block (hk _ hv) (hk _ (g _ (qC b _))),h.kept.block (hk _ (g _ (jK b _))),fun x hx=>(h.overs x hx).keep (fun A off h1 h2=>hk A (by have:=ho x hx A off h1 h2;omega)),h.dead.block (hk _ (g _ (iW b _))),h.alive.block (hk _ (g _ (gZ b _))),fun p hp=>(h.inner p hp).block (hk _ (g _ (jL b hp))),h.some,h.keys,h.nodup⟩
end
/-- the error that Parse answers -/
def ckE (e0:Int) (r r':Rd) (ld:Int):Int:=if e0=0 then (if jv r=0 then (if jv r'=0 then ld else jv r') else jv r) else e0
def st0:Stamp:=⟨0,0,0⟩
/-- behind Parse -/
def Vs (e:Int) (dev inc:Nat) (st:Stamp) (c:List Dot) (K:List Ev) (d:List Dot) (w:World) (x:Ending) (w':World):Prop :=
 (e≠0->x=.returned (.tuple #[.agg (snA 0 0 st0 (.pointer none)),.int .i64 e])) /\
 (e=0->∃ m b s,x=.returned (.tuple #[.agg (snA dev inc st (.pointer (some ⟨m,0,none⟩))),.int .i64 0])/\MpIn w' m b s/\MInv s/\Rel s ⟨c,K,d⟩/\s.dead.length<=d.length/\(∀ x∈s.K,x.1∈K)/\(∀ q,foot b s.A q->w.heap.size<=q)/\∀ x∈s.K,Jz w.heap.size x)/\Below w.heap.size w w'
theorem z84 {p : Prop} (h : p := by
 rw [HC.out]
 exact ⟨fun _ => rfl, fun e9 => absurd e9 HNE.out, below_setRow hbt (aq _) _⟩) : p := h
theorem y59 {p q : Prop} (k : q) (h : PLift q -> p := by
 intro kk
 refine aN (fun W11 zS => ?_)
 have hZ : SnBlk W11 w.heap.size 0 0 st0 (.pointer none) := by rw [zS.out]; exact (heap_setCell_other _ _ _ _ (by simp only; omega)).trans (hZ9.below zQ)
 have hbt : Below w.heap.size w W11 := by rw [zS.out]; exact (below2 hb9 zQ).setCell (by simp only; omega) _
 revert W11 zS hZ hbt
 exact kk.down) : p := h ⟨k⟩
theorem Jk (a:Option Addr) (cap:Nat) (l:Bytes) (w:World) (hl:l.length<=1073741824) (hcap:l.length<=cap) (h:BytesIn w a l) {body full:Bytes} {e0:Int} (h1:zi l=(body,e0)) {r r':Rd} {dev inc:Nat} {st:Stamp} (h2:Dn body=(r,dev,inc,st,full)) {c:List Dot} {K:List Ev} {d:List Dot} (h3:qJ full=(r',c,K,d)) :
 Calls prog 49 #[.slice a l.length cap] w (Vs (ckE e0 r r' (kR c K d)) dev inc st c K d w):=by
 have HO0:=fun (W:World) (h:BytesIn W a l)=>Gz a cap l W hl hcap h;have hfit:=yD l;have hbl:e0=0->body.length<=1048576:=fun he=>by
  rw [<- show (zi l).1=body by rw [h1]];unfold zi;have:=yD l;split
  ·split
   ·simp
   ·simp only;omega
  ·simp
 rw [h1] at HO0;unfold LX at HO0;simp only at HO0;have HO:=aa HO0;clear HO0 hfit h1;go_enter func49,ntmps49;go_upto_region 1 with fail
 refine aN (fun W hW=>?_);have hbt:Below w.heap.size w W:=by rw [hW.out];exact (bb _ _).alloc (aq _) _
 have hZ:SnBlk W w.heap.size 0 0 st0 (.pointer none):=by rw [hW.out];exact heap_alloc_last w _
 have hin:=h.kept hbt;clear hW h;by_cases he0:e0=0
 case neg =>
  have HC:Hid (ckE e0 r r' (kR c K d)=e0):=by unfold Hid ckE;rw [if_neg he0]
  have HNE:=aa he0;have q1:(e0 == 0)=false:=beq_eq_false_iff_ne.2 he0;have q2:(e0 != 0)=true:=by rw [bne_iff_ne];exact he0
  clear he0 hbl;go_upto_region 3 with (go_at_call 87;(with_reducible refine (HO.out _ hin).mono ?_);rintro x w1 ⟨v,rfl,hown,hb⟩)
  replace hZ:=hZ.below hb;replace hbt:=below2 hbt hb;clear hb hown hin;go_wp2_with (refine wpList_store_row rfl 42 _ _ rfl w.heap.size (snA 0 0 st0 (.pointer none)) rfl rfl 42 (snA 0 0 st0 (.pointer none)) hZ (by kernel_rfl) rfl (by kernel_rfl) ?_)
  refine jf 2 3 42 42 w.heap.size (snA 0 0 st0 (.pointer none)) _ (.int .i64 e0) rfl rfl rfl (setRow_heap _ _ _ _ _ _ hZ) underlying42 rfl (by kernel_rfl) rfl ?_
  exact z84
 case pos =>
 subst he0;have YD:=hbl rfl;clear hbl;have f1:=di 63 ⟨body,0⟩;have N1':∀ (R:Nat) (W:World),RdAt W R ⟨body,0⟩->Calls prog 89 #[.pointer (some ⟨R,0,none⟩),.int .u64 63] W (iw R (bQ 63 ⟨body,0⟩).1 (.int .u64 (bQ 63 ⟨body,0⟩).2) W):=fun R W h=>oz R ⟨body,0⟩ 63 W (by simp only;omega) (by omega) h;obtain ⟨r1,n1,g1⟩:∃ x y,bQ 63 ⟨body,0⟩=(x,y):=⟨_,_,rfl⟩;rw [g1] at f1 N1';simp only at f1 N1';have f2:=di 1048576 r1;have N2':∀ (R:Nat) (W:World),RdAt W R r1->Calls prog 89 #[.pointer (some ⟨R,0,none⟩),.int .u64 1048576] W (iw R (bQ 1048576 r1).1 (.int .u64 (bQ 1048576 r1).2) W):=fun R W h=>oz R r1 1048576 W (by omega) (by omega) h;obtain ⟨r2,n2,g2⟩:∃ x y,bQ 1048576 r1=(x,y):=⟨_,_,rfl⟩;rw [g2] at f2 N2';simp only at f2 N2';have f3:=uF r2;have N3':∀ (R:Nat) (W:World),RdAt W R r2->Calls prog 90 #[.pointer (some ⟨R,0,none⟩)] W (iw R (gY r2).1 (lQ (gY r2).2) W):=fun R W h=>Dl R r2 W (by omega) h;obtain ⟨r3,s3,g3⟩:∃ x y,gY r2=(x,y):=⟨_,_,rfl⟩;rw [g3] at f3 N3';simp only at f3 N3';have f4:=dY 1048576 r3;have N4':∀ (R:Nat) (W:World),RdAt W R r3->Calls prog 91 #[.pointer (some ⟨R,0,none⟩),.int .i64 1048576] W (iw R (aV 1048576 r3).1 (.string (mkS (aV 1048576 r3).2)) W):=fun R W h=>Dt R r3 1048576 W (by omega) (by omega) h;obtain ⟨r4,t4,g4⟩:∃ x y,aV 1048576 r3=(x,y):=⟨_,_,rfl⟩;rw [g4] at f4 N4';simp only at f4 N4';have hxx:Dn body=(r4,n1,n2,s3,t4):=by unfold Dn;simp only [g1,g2,g3,g4]
 rw [hxx] at h2;simp only [Prod.mk.injEq] at h2;obtain ⟨rfl,rfl,rfl,rfl,rfl⟩:=h2;have N1:=aa N1';have N2:=aa N2';have N3:=aa N3';have N4:=aa N4';have N5:=aa (fun (R:Nat) (W:World) (h:RdAt W R r4)=>Us R r4 W h (by omega));have b1:=f1.2;have b2:=f2.2;have b4:=f4.2;clear N1' N2' N3' N4' g1 g2 g3 g4 f1 f2 f3 f4 hxx;have HC3:=aa h3;clear h3;go_upto_region 4 with (go_at_call 87;(with_reducible refine (HO.out _ hin).mono ?_);rintro x w1 ⟨v,rfl,hown,hb⟩)
 obtain ⟨ab,cb,rfl,OV⟩:=eQ hown;have hcb:=H9 hown;have hRP:=aa (wu ab cb body w1 OV hcb);replace hZ:=hZ.below hb;replace hbt:=below2 hbt hb;have hZw:=hZ.lt;clear hb hown hin OV HO;go_upto_region 5 with (go_at_call 88;(with_reducible refine hRP.out.mono ?_);rintro x w2 ⟨rfl,hR2,hb2⟩)
 replace hZ:=hZ.below hb2;replace hbt:=below2 hbt hb2;have hRl:=hR2.lt;obtain ⟨R,hRR⟩:∃ R,R=w1.heap.size:=⟨_,rfl⟩;rw [<- hRR] at hR2 hZw hRl ⊢;clear hRP hb2 hRR;go_upto_region 6 with (first
  | (go_at_call 89;(with_reducible refine (N1.out _ _ hR2).mono ?_);rintro x w3 ⟨rfl,hR3,hF3⟩;clear hR2)
  | (go_at_call 89;(with_reducible refine (N2.out _ _ hR3).mono ?_);rintro x w4 ⟨rfl,hR4,hF4⟩;clear hR3)
  | (refine bK 42 _ _ _ (snA n1 n2 st0 (.pointer none)) rfl rfl (by kernel_rfl) rfl (by kernel_rfl) ?_))
 have Vj:=hF3.again hF4;have hz4:=Vj.size;refine aN (fun W5 hW5=>?_);have hb5:Below w4.heap.size w4 W5:=by rw [hW5.out];exact (bb _ _).alloc (aq _) _
 have hX:SnBlk W5 w4.heap.size n1 n2 st0 (.pointer none):=by rw [hW5.out];exact heap_alloc_last w4 _
 have hF5:=Vj.again (Fr.of_below hb5);have hR5:=hR4.below hb5;have hXl:=hX.lt;obtain ⟨X,hXX⟩:∃ X,X=w4.heap.size:=⟨_,rfl⟩;rw [<- hXX] at hX hXl ⊢;have hRX:R<X:=by omega
 replace hZ:=hZ.fr hF5 (by simp only [isR];omega);replace hbt:=hbt.trans (hF5.below (B:=w.heap.size) (by omega) (fun k hk=>by simp only [isR] at hk;omega));clear hW5 hb5 hF3 hF4 Vj hR4 N1 N2 hXX hz4 hF5;go_upto_region 7 with (first
  | (go_at_call 90;(with_reducible refine (N3.out _ _ hR5).mono ?_);rintro x w6 ⟨rfl,hR6,hF6⟩;have hX6:=hX.fr hF6 (by simp only [isR];omega))
  | (refine wpList_store_mid rfl 32 _ _ rfl X 2 #[.int .i64 s3.wall,.int .i64 s3.count,.int .i64 s3.dev] rfl rfl hX6.there2 (by kernel_rfl) (by kernel_rfl) ?_))
 refine aN (fun W7 hW7=>?_);have hX7:SnBlk W7 X n1 n2 s3 (.pointer none):=by rw [hW7.out];exact hX6.set2 s3
 have hF7:Fr (qP R X) W5 W7:=by rw [hW7.out];exact (qB hF6).setCells (ba (ba rfl)) _ _
 have hR7:RdAt W7 R r3:=by rw [hW7.out];exact hR6.keep (fun k hk=>heap_setCells_other _ _ _ _ _ (fun e=>by have:X=k:=e;omega))
 replace hZ:=hZ.fr hF7 (by simp only [qP];omega);replace hbt:=hbt.trans (hF7.below (B:=w.heap.size) hbt.size (fun k hk=>by simp only [qP] at hk;have:=hbt.size;omega));clear hW7 hX6 hR6 hF6 hF7 hX hR5 N3;go_upto_region 8 with (go_at_call 91;(with_reducible refine (N4.out _ _ hR7).mono ?_);rintro x w8 ⟨rfl,hR8,hF8⟩)
 have hX8:=hX7.fr hF8 (by simp only [isR];omega);replace hZ:=hZ.fr hF8 (by simp only [isR];omega);replace hbt:=hbt.trans (hF8.below (B:=w.heap.size) hbt.size (fun k hk=>by simp only [isR] at hk;have:=hbt.size;omega));have Xa:=hX8.lt;have hzw:=hbt.size;have hwX:w.heap.size<X:=by omega
 clear hX7 hR7 hF8 N4 hXl;go_upto_region 9 with (go_at_call 92;(with_reducible refine (N5.out _ _ hR8).mono ?_);rintro x w9 ⟨rfl,rfl⟩)
 by_cases he4:jv r4=0
 case neg =>
  have HC:Hid (ckE 0 r4 r' (kR c K d)=jv r4):=by unfold Hid ckE;rw [if_pos rfl,if_neg he4]
  have HNE:=aa he4;have q1:(jv r4 == 0)=false:=beq_eq_false_iff_ne.2 he4;have q2:(jv r4 != 0)=true:=by rw [bne_iff_ne];exact he4
  clear he4;go_wp2_with (refine wpList_store_row rfl 42 _ _ rfl w.heap.size (snA 0 0 st0 (.pointer none)) rfl rfl 42 (snA 0 0 st0 (.pointer none)) hZ (by kernel_rfl) rfl (by kernel_rfl) ?_)
  refine jf 2 3 42 42 w.heap.size (snA 0 0 st0 (.pointer none)) _ (.int .i64 (jv r4)) rfl rfl rfl (setRow_heap _ _ _ _ _ _ hZ) underlying42 rfl (by kernel_rfl) rfl ?_
  exact z84
 case pos =>
 have q1:(jv r4 == 0)=true:=beq_iff_eq.2 he4;have q2:(jv r4 != 0)=false:=by rw [bne_eq_false_iff_eq];exact he4
 have HE4:=aa he4;clear he4 N5 hR8;go_upto_region 11 with fail
 obtain ⟨cc,W',hcv,hbC,WF,hcC⟩:=Pn w8 t4;have hL0:=LJ (some ⟨w8.heap.size,0,none⟩) cc t4 W' (by omega) hcC WF HC3.out;unfold RetCLZ at hL0;have hX9:=hX8.below hbC;have hZ9:=hZ.below hbC;have hb9:=below2 hbt hbC;have hlo:X<W'.heap.size:=Nat.lt_of_lt_of_le Xa hbC.size;clear WF hcC hX8 hZ hbt Xa q1 q2;have hXr:=fun (V:World) (h:Below W'.heap.size W' V)=>hX9.below h;by_cases hr9:jv r'=0
 case neg =>
  have HC:Hid (ckE 0 r4 r' (kR c K d)=jv r'):=by unfold Hid ckE;rw [if_pos rfl,if_pos HE4.out,if_neg hr9]
  simp only [if_neg hr9] at hL0;have hne:=hr9;clear hr9;have HL:Hid (Calls prog 93 #[.slice (some ⟨w8.heap.size,0,none⟩) t4.length cc] W' fun x w'=>x=.returned (.tuple #[.pointer none,.int .i64 (jv r')])/\Below W'.heap.size W' w'):=aa hL0;have HNE:=aa hne;have q1:(jv r' == 0)=false:=beq_eq_false_iff_ne.2 hne;have q2:(jv r' != 0)=true:=by rw [bne_iff_ne];exact hne
  clear hL0 hne hXr;go_upto_region 12 with (go_at_call 93;(with_reducible refine HL.out.mono ?_);rintro x w10 ⟨rfl,zQ⟩;have yu:=hX9.below zQ;have c5:w10.cell? ⟨X,5,none⟩=some (.pointer none):=(by have:=yu.range 5 _ rfl;rwa [av] at this);have c5f:=yu.free 5)
  refine y59 ?_
  intro W11 zS hZ hbt
  clear zS yu zQ hX9 hZ9 hb9 c5 c5f
  go_wp2_with (refine wpList_store_row rfl 42 _ _ rfl w.heap.size (snA 0 0 st0 (.pointer none)) rfl rfl 42 (snA 0 0 st0 (.pointer none)) hZ (by kernel_rfl) rfl (by kernel_rfl) ?_)
  refine jf 2 3 42 42 w.heap.size (snA 0 0 st0 (.pointer none)) _ (.int .i64 (jv r')) rfl rfl rfl (setRow_heap _ _ _ _ _ _ hZ) underlying42 rfl (by kernel_rfl) rfl ?_
  exact z84
 case pos =>
 by_cases hld:kR c K d=0
 case neg =>
  have HC:Hid (ckE 0 r4 r' (kR c K d)=kR c K d):=by unfold Hid ckE;rw [if_pos rfl,if_pos HE4.out,if_pos hr9]
  simp only [if_pos hr9,if_neg hld] at hL0;have hne:=hld;clear hr9 hld;have HL:Hid (Calls prog 93 #[.slice (some ⟨w8.heap.size,0,none⟩) t4.length cc] W' fun x w'=>x=.returned (.tuple #[.pointer none,.int .i64 (kR c K d)])/\Below W'.heap.size W' w'):=aa hL0;have HNE:=aa hne;have q1:(kR c K d == 0)=false:=beq_eq_false_iff_ne.2 hne;have q2:(kR c K d != 0)=true:=by rw [bne_iff_ne];exact hne
  clear hL0 hne hXr;go_upto_region 12 with (go_at_call 93;(with_reducible refine HL.out.mono ?_);rintro x w10 ⟨rfl,zQ⟩;have yu:=hX9.below zQ;have c5:w10.cell? ⟨X,5,none⟩=some (.pointer none):=(by have:=yu.range 5 _ rfl;rwa [av] at this);have c5f:=yu.free 5)
  refine y59 ?_
  intro W11 zS hZ hbt
  clear zS yu zQ hX9 hZ9 hb9 c5 c5f
  go_wp2_with (refine wpList_store_row rfl 42 _ _ rfl w.heap.size (snA 0 0 st0 (.pointer none)) rfl rfl 42 (snA 0 0 st0 (.pointer none)) hZ (by kernel_rfl) rfl (by kernel_rfl) ?_)
  refine jf 2 3 42 42 w.heap.size (snA 0 0 st0 (.pointer none)) _ (.int .i64 (kR c K d)) rfl rfl rfl (setRow_heap _ _ _ _ _ _ hZ) underlying42 rfl (by kernel_rfl) rfl ?_
  exact z84
 case pos =>
 have HC:Hid (ckE 0 r4 r' (kR c K d)=0):=by unfold Hid ckE;rw [if_pos rfl,if_pos HE4.out,if_pos hr9];exact hld
 simp only [if_pos hr9,if_pos hld] at hL0;have HL:=aa hL0;clear hL0 hr9 hld hXr;go_upto_region 12 with (go_at_call 93;(with_reducible refine HL.out.mono ?_);rintro x w10 ⟨m,bm,t,rfl,hm,hiv,hrel,hdl,hmem,zQ,hfo,hlw⟩;have yu:=hX9.below zQ;have c5:w10.cell? ⟨X,5,none⟩=some (.pointer none):=(by have:=yu.range 5 _ rfl;rwa [av] at this);have c5f:=yu.free 5)
 refine aN (fun W11 zS=>?_);have hk:∀ q,q≠X->W11.heap[q]?=w10.heap[q]?:=fun q hq=>by rw [zS.out];exact heap_setCell_other _ _ _ _ (fun e=>hq e.symm)
 have Xb:SnBlk W11 X n1 n2 s3 (.pointer (some ⟨m,0,none⟩)):=by rw [zS.out];exact yu.set5 _
 have XL:=hm.cellAt yu hlo hk hfo hlw;have hZ:SnBlk W11 w.heap.size 0 0 st0 (.pointer none):=(hk _ (by omega)).trans (hZ9.below zQ);have hbt:Below w.heap.size w W11:=by rw [zS.out];exact (below2 hb9 zQ).setCell (by simp only;omega) _
 have hrg:=Xb.range;clear zS yu zQ hX9 hZ9 hb9 c5 c5f hk Xb hm;go_wp2_with (first
  | ((with_reducible refine bz 42 _ X 0 (ny n1 n2 s3 (.pointer (some ⟨m,0,none⟩))) (.agg (snA n1 n2 s3 (.pointer (some ⟨m,0,none⟩)))) rfl _ underlying42 rfl (by kernel_rfl) hrg ?_ rfl ?_);exact rfl)
  | (refine wpList_store_row rfl 42 _ _ rfl w.heap.size (snA n1 n2 s3 (.pointer (some ⟨m,0,none⟩))) rfl rfl 42 (snA 0 0 st0 (.pointer none)) hZ (by kernel_rfl) rfl (by kernel_rfl) ?_))
 refine jf 2 3 42 42 w.heap.size (snA n1 n2 s3 (.pointer (some ⟨m,0,none⟩))) _ (.int .i64 0) rfl rfl rfl (setRow_heap _ _ _ _ _ _ hZ) underlying42 rfl (by kernel_rfl) rfl ?_;rw [HC.out];exact ⟨fun e9=>absurd rfl e9,fun _=>⟨m,bm,t,rfl,XL.cellAt hZ (by omega) (fun q hq=>aX _ _ _ _ (fun e=>hq e.symm)) hfo hlw,hiv,hrel,hdl,hmem,fun q hq=>by have:=hfo q hq;omega,fun x hx A off h1 h2=>by have:=hlw x hx A off h1 h2;omega⟩,below_setRow hbt (aq _) _⟩
end Go.Proofs.YthphepeniaemoaaGreat
