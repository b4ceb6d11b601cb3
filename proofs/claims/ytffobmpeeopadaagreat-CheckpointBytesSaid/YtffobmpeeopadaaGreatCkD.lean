/- checkpoint.Parse. Conditions: at most 2^30 bytes. -/
import Derived.Test.YtffobmpeeopadaaGreatCkR
import Derived.Test.YtffobmpeeopadaaGreatCanL
import Derived.Lib.ConvBytes
import Derived.Test.YtffobmpeeopadaaGreatCkQ
set_option linter.unusedSimpArgs false
set_option linter.unusedVariables false
set_option linter.unnecessarySimpa false
set_option maxHeartbeats 16000000
set_option maxRecDepth 100000
open Go.Proofs.Tryz
namespace Go.Proofs.YtffobmpeeopadaaGreat
open Go.RowKit
/-- '[]byte(s)': new bytes -/
theorem PU (X:World) (l:Bytes):∃ c W',(convert 9 40 (.string (mkS l))).run prog X=.ok (.slice (some ⟨X.heap.size,0,none⟩) l.length c) W'/\Below X.heap.size X W'/\BytesIn W' (some ⟨X.heap.size,0,none⟩) l/\l.length<=c:=by
 have h:=Lib.run_convert_string_bytes X 9 40 5 (mkS l) underlying9 underlying40 underlying5;refine ⟨_,_,h,⟨rfl,rfl,rfl,by rw [Lib.bytesWorld_size];omega,fun k hk=>Lib.bytesWorld_at_old _ _ _ _ hk⟩,Or.inr ⟨_,_,rfl,fun j hj=>?_⟩,?_⟩
 ·rw [ar,Lib.bytesWorld_cell X 5 (mkS l) j hj]
  simp [mkS,hj]
 ·exact Go.grownCap_ge _ _ _ _
/-- block X holds a snapshot -/
def SnBlk (w:World) (X:Nat) (d i:Int) (s:Stamp) (v:Value):Prop:=w.heap[X]?=some (.cells (snA d i s v) 31 (0,0))
section
variable {w w':World} {X:Nat} {d i:Int} {s:Stamp} {v:Value}
theorem SnBlk.lt (h:SnBlk w X d i s v):X<w.heap.size:=lt_of_block h
theorem SnBlk.below (h:SnBlk w X d i s v) (hb:Below w.heap.size w w'):SnBlk w' X d i s v:=(hb.block _ h.lt).trans h
theorem SnBlk.fr {S:Nat->Prop} (h:SnBlk w X d i s v) (hf:Fr S w w') (hs:¬ S X):SnBlk w' X d i s v:=(hf.block _ h.lt hs).trans h
theorem SnBlk.range (h:SnBlk w X d i s v):w.rangeAt X 0 (lN d i s v):=fun j u hu=>by
 rw [ar];simp only [World.cell?,show w.heap[X]?=_ from h];simpa using hu
theorem SnBlk.free (h:SnBlk w X d i s v) (o:Nat):w.frozen? ⟨X,o,none⟩=false:=by
 simp [World.frozen?,show w.heap[X]?=_ from h]
theorem SnBlk.there2 (h:SnBlk w X d i s v):w.there X 2 3:=fun j hj=>by
 refine ⟨?_,h.free _⟩;have hlt:2+j<(lN d i s v).length:=by simp;omega
 have:=h.range (2+j) _ (List.getElem?_eq_getElem hlt);rw [ar] at this;rw [this];rfl
theorem SnBlk.set2 (h:SnBlk w X d i s v) (t:Stamp):SnBlk (w.setCells X 2 [.int .i64 t.wall,.int .i64 t.count,.int .i64 t.dev]) X d i t v:=by
 simp [SnBlk,World.setCells,World.setCell,Array.getElem?_modify,show w.heap[X]?=_ from h]
theorem SnBlk.set5 (h:SnBlk w X d i s v) (u:Value):SnBlk (w.setCell ⟨X,5,none⟩ u) X d i s u:=by
 simp [SnBlk,World.setCell,Array.getElem?_modify,show w.heap[X]?=_ from h]
theorem MpIn.cellAt {m:Nat} {b:MB} {t:MS} {lo:Nat} (h:MpIn w m b t) (hx:SnBlk w X d i s v) (hX:X<lo) (hk:∀ q,q≠X->w'.heap[q]?=w.heap[q]?) (hf:∀ q,foot b t.A q->lo<=q) (ho:∀ x∈t.K,JZ lo x):MpIn w' m b t:=by
 have hx':w.heap[X]?=Option.some (.cells (snA d i s v) 31 (0,0)):=hx;have hm:m≠X:=fun e=>by have:=h.cell;rw [e,hx'] at this;simp at this
 have hv:b.v≠X:=fun e=>by have:=h.vec.cell;rw [e,hx'] at this;simp at this
 have g:∀ k,foot b t.A k->k≠X:=fun k hk=>by have:=hf k hk;omega
 exact ⟨(hk m hm).trans h.cell,h.vec.block (hk _ hv) (hk _ (g _ (uo b _))),h.kept.block (hk _ (g _ (kD b _))),fun x hx=>(h.overs x hx).keep (fun A off h1 h2=>hk A (by have:=ho x hx A off h1 h2;omega)),h.dead.block (hk _ (g _ (jB b _))),h.alive.block (hk _ (g _ (iL b _))),fun p hp=>(h.inner p hp).block (hk _ (g _ (kE b hp))),h.some,h.keys,h.nodup⟩
end
/-- the error that Parse answers -/
def ckE (e0:Int) (r r':Rd) (ld:Int):Int:=if e0=0 then (if jE r=0 then (if jE r'=0 then ld else jE r') else jE r) else e0
def st0:Stamp:=⟨0,0,0⟩
/-- behind Parse -/
def VV (e:Int) (dev inc:Nat) (st:Stamp) (c:List Dot) (K:List Ev) (d:List Dot) (w:World) (x:Ending) (w':World):Prop :=
 (e≠0->x=.returned (.tuple #[.agg (snA 0 0 st0 (.pointer none)),.int .i64 e])) /\
 (e=0->∃ m b s,x=.returned (.tuple #[.agg (snA dev inc st (.pointer (some ⟨m,0,none⟩))),.int .i64 0])/\MpIn w' m b s/\MInv s/\Rel s ⟨c,K,d⟩/\s.dead.length<=d.length/\(∀ x∈s.K,x.1∈K)/\(∀ q,foot b s.A q->w.heap.size<=q)/\∀ x∈s.K,JZ w.heap.size x)/\Below w.heap.size w w'
theorem z86 {p : Prop} (h : p := by
 rw [HC.out]
 exact ⟨fun _ => rfl, fun e9 => absurd e9 HNE.out, below_setRow hbt (al _) _⟩) : p := h
theorem y72 {p q : Prop} (k : q) (h : PLift q -> p := by
 intro kk
 refine aU (fun W11 Ai => ?_)
 have hZ : SnBlk W11 w.heap.size 0 0 st0 (.pointer none) := by rw [Ai.out]; exact (heap_setCell_other _ _ _ _ (by simp only; omega)).trans (hZ9.below rW)
 have hbt : Below w.heap.size w W11 := by rw [Ai.out]; exact (below2 hb9 rW).setCell (by simp only; omega) _
 revert W11 Ai hZ hbt
 exact kk.down) : p := h ⟨k⟩
theorem zM (a:Option Addr) (cap:Nat) (l:Bytes) (w:World) (hl:l.length<=1073741824) (hcap:l.length<=cap) (h:BytesIn w a l) {body full:Bytes} {e0:Int} (h1:frOne l=(body,e0)) {r r':Rd} {dev inc:Nat} {st:Stamp} (h2:yX body=(r,dev,inc,st,full)) {c:List Dot} {K:List Ev} {d:List Dot} (h3:pK full=(r',c,K,d)) :
 Calls prog 9 #[.slice a l.length cap] w (VV (ckE e0 r r' (kS c K d)) dev inc st c K d w):=by
 have HO0:=fun (W:World) (h:BytesIn W a l)=>Hr a cap l W hl hcap h;have hfit:=yP l;have hbl:e0=0->body.length<=1048576:=fun he=>by
  rw [<- show (frOne l).1=body by rw [h1]];unfold frOne;have:=yP l;split
  ·split
   ·simp
   ·simp only;omega
  ·simp
 rw [h1] at HO0;unfold MZ at HO0;simp only at HO0;have HO:=aa HO0;clear HO0 hfit h1;go_enter func9,ntmps9;go_upto_region 1 with fail
 refine aU (fun W hW=>?_);have hbt:Below w.heap.size w W:=by rw [hW.out];exact (Below.refl _ _).alloc (al _) _
 have hZ:SnBlk W w.heap.size 0 0 st0 (.pointer none):=by rw [hW.out];exact heap_alloc_last w _
 have hin:=h.kept hbt;clear hW h;by_cases he0:e0=0
 case neg =>
  have HC:Hid (ckE e0 r r' (kS c K d)=e0):=by unfold Hid ckE;rw [if_neg he0]
  have HNE:=aa he0;have q1:(e0 == 0)=false:=beq_eq_false_iff_ne.2 he0;have q2:(e0 != 0)=true:=by rw [bne_iff_ne];exact he0
  clear he0 hbl;go_upto_region 3 with (go_at_call 30;(with_reducible refine (HO.out _ hin).mono ?_);rintro x w1 ⟨v,rfl,hown,hb⟩)
  replace hZ:=hZ.below hb;replace hbt:=below2 hbt hb;clear hb hown hin;go_wp2_with (refine wpList_store_row rfl 31 _ _ rfl w.heap.size (snA 0 0 st0 (.pointer none)) rfl rfl 31 (snA 0 0 st0 (.pointer none)) hZ (by kernel_rfl) rfl (by kernel_rfl) ?_)
  refine jo 2 3 31 31 w.heap.size (snA 0 0 st0 (.pointer none)) _ (.int .i64 e0) rfl rfl rfl (setRow_heap _ _ _ _ _ _ hZ) underlying31 rfl (by kernel_rfl) rfl ?_
  exact z86
 case pos =>
 subst he0;have Y7:=hbl rfl;clear hbl;have f1:=dD 63 ⟨body,0⟩;have N1':∀ (R:Nat) (W:World),RdAt W R ⟨body,0⟩->Calls prog 32 #[.pointer (some ⟨R,0,none⟩),.int .u64 63] W (iH R (bU 63 ⟨body,0⟩).1 (.int .u64 (bU 63 ⟨body,0⟩).2) W):=fun R W h=>oV R ⟨body,0⟩ 63 W (by simp only;omega) (by omega) h;obtain ⟨r1,n1,g1⟩:∃ x y,bU 63 ⟨body,0⟩=(x,y):=⟨_,_,rfl⟩;rw [g1] at f1 N1';simp only at f1 N1';have f2:=dD 1048576 r1;have N2':∀ (R:Nat) (W:World),RdAt W R r1->Calls prog 32 #[.pointer (some ⟨R,0,none⟩),.int .u64 1048576] W (iH R (bU 1048576 r1).1 (.int .u64 (bU 1048576 r1).2) W):=fun R W h=>oV R r1 1048576 W (by omega) (by omega) h;obtain ⟨r2,n2,g2⟩:∃ x y,bU 1048576 r1=(x,y):=⟨_,_,rfl⟩;rw [g2] at f2 N2';simp only at f2 N2';have f3:=vg r2;have N3':∀ (R:Nat) (W:World),RdAt W R r2->Calls prog 33 #[.pointer (some ⟨R,0,none⟩)] W (iH R (iw r2).1 (jY (iw r2).2) W):=fun R W h=>DR R r2 W (by omega) h;obtain ⟨r3,s3,g3⟩:∃ x y,iw r2=(x,y):=⟨_,_,rfl⟩;rw [g3] at f3 N3';simp only at f3 N3';have f4:=eF 1048576 r3;have N4':∀ (R:Nat) (W:World),RdAt W R r3->Calls prog 34 #[.pointer (some ⟨R,0,none⟩),.int .i64 1048576] W (iH R (aX 1048576 r3).1 (.string (mkS (aX 1048576 r3).2)) W):=fun R W h=>DW R r3 1048576 W (by omega) (by omega) h;obtain ⟨r4,t4,g4⟩:∃ x y,aX 1048576 r3=(x,y):=⟨_,_,rfl⟩;rw [g4] at f4 N4';simp only at f4 N4';have hxx:yX body=(r4,n1,n2,s3,t4):=by unfold yX;simp only [g1,g2,g3,g4]
 rw [hxx] at h2;simp only [Prod.mk.injEq] at h2;obtain ⟨rfl,rfl,rfl,rfl,rfl⟩:=h2;have N1:=aa N1';have N2:=aa N2';have N3:=aa N3';have N4:=aa N4';have N5:=aa (fun (R:Nat) (W:World) (h:RdAt W R r4)=>UX R r4 W h (by omega));have b1:=f1.2;have b2:=f2.2;have b4:=f4.2;clear N1' N2' N3' N4' g1 g2 g3 g4 f1 f2 f3 f4 hxx;have HC3:=aa h3;clear h3;go_upto_region 4 with (go_at_call 30;(with_reducible refine (HO.out _ hin).mono ?_);rintro x w1 ⟨v,rfl,hown,hb⟩)
 obtain ⟨ab,cb,rfl,Pz⟩:=bT hown;have hcb:=BN hown;have hRP:=aa (wY ab cb body w1 Pz hcb);replace hZ:=hZ.below hb;replace hbt:=below2 hbt hb;have hZw:=hZ.lt;clear hb hown hin Pz HO;go_upto_region 5 with (go_at_call 31;(with_reducible refine hRP.out.mono ?_);rintro x w2 ⟨rfl,hR2,hb2⟩)
 replace hZ:=hZ.below hb2;replace hbt:=below2 hbt hb2;have hRl:=hR2.lt;obtain ⟨R,hRR⟩:∃ R,R=w1.heap.size:=⟨_,rfl⟩;rw [<- hRR] at hR2 hZw hRl ⊢;clear hRP hb2 hRR;go_upto_region 6 with (first
  | (go_at_call 32;(with_reducible refine (N1.out _ _ hR2).mono ?_);rintro x w3 ⟨rfl,hR3,hF3⟩;clear hR2)
  | (go_at_call 32;(with_reducible refine (N2.out _ _ hR3).mono ?_);rintro x w4 ⟨rfl,hR4,hF4⟩;clear hR3)
  | (refine bH 31 _ _ _ (snA n1 n2 st0 (.pointer none)) rfl rfl (by kernel_rfl) rfl (by kernel_rfl) ?_))
 have VL:=hF3.again hF4;have hz4:=VL.size;refine aU (fun W5 hW5=>?_);have hb5:Below w4.heap.size w4 W5:=by rw [hW5.out];exact (Below.refl _ _).alloc (al _) _
 have hX:SnBlk W5 w4.heap.size n1 n2 st0 (.pointer none):=by rw [hW5.out];exact heap_alloc_last w4 _
 have hF5:=VL.again (Fr.of_below hb5);have hR5:=hR4.below hb5;have hXl:=hX.lt;obtain ⟨X,hXX⟩:∃ X,X=w4.heap.size:=⟨_,rfl⟩;rw [<- hXX] at hX hXl ⊢;have hRX:R<X:=by omega
 replace hZ:=hZ.fr hF5 (by simp only [isR];omega);replace hbt:=hbt.trans (hF5.below (B:=w.heap.size) (by omega) (fun k hk=>by simp only [isR] at hk;omega));clear hW5 hb5 hF3 hF4 VL hR4 N1 N2 hXX hz4 hF5;go_upto_region 7 with (first
  | (go_at_call 33;(with_reducible refine (N3.out _ _ hR5).mono ?_);rintro x w6 ⟨rfl,hR6,hF6⟩;have hX6:=hX.fr hF6 (by simp only [isR];omega))
  | (refine wpList_store_mid rfl 23 _ _ rfl X 2 #[.int .i64 s3.wall,.int .i64 s3.count,.int .i64 s3.dev] rfl rfl hX6.there2 (by kernel_rfl) (by kernel_rfl) ?_))
 refine aU (fun W7 hW7=>?_);have hX7:SnBlk W7 X n1 n2 s3 (.pointer none):=by rw [hW7.out];exact hX6.set2 s3
 have hF7:Fr (rV R X) W5 W7:=by rw [hW7.out];exact (qZ hF6).setCells (Or.inr (Or.inr rfl)) _ _
 have hR7:RdAt W7 R r3:=by rw [hW7.out];exact hR6.keep (fun k hk=>heap_setCells_other _ _ _ _ _ (fun e=>by have:X=k:=e;omega))
 replace hZ:=hZ.fr hF7 (by simp only [rV];omega);replace hbt:=hbt.trans (hF7.below (B:=w.heap.size) hbt.size (fun k hk=>by simp only [rV] at hk;have:=hbt.size;omega));clear hW7 hX6 hR6 hF6 hF7 hX hR5 N3;go_upto_region 8 with (go_at_call 34;(with_reducible refine (N4.out _ _ hR7).mono ?_);rintro x w8 ⟨rfl,hR8,hF8⟩)
 have hX8:=hX7.fr hF8 (by simp only [isR];omega);replace hZ:=hZ.fr hF8 (by simp only [isR];omega);replace hbt:=hbt.trans (hF8.below (B:=w.heap.size) hbt.size (fun k hk=>by simp only [isR] at hk;have:=hbt.size;omega));have XC:=hX8.lt;have hzw:=hbt.size;have hwX:w.heap.size<X:=by omega
 clear hX7 hR7 hF8 N4 hXl;go_upto_region 9 with (go_at_call 35;(with_reducible refine (N5.out _ _ hR8).mono ?_);rintro x w9 ⟨rfl,rfl⟩)
 by_cases he4:jE r4=0
 case neg =>
  have HC:Hid (ckE 0 r4 r' (kS c K d)=jE r4):=by unfold Hid ckE;rw [if_pos rfl,if_neg he4]
  have HNE:=aa he4;have q1:(jE r4 == 0)=false:=beq_eq_false_iff_ne.2 he4;have q2:(jE r4 != 0)=true:=by rw [bne_iff_ne];exact he4
  clear he4;go_wp2_with (refine wpList_store_row rfl 31 _ _ rfl w.heap.size (snA 0 0 st0 (.pointer none)) rfl rfl 31 (snA 0 0 st0 (.pointer none)) hZ (by kernel_rfl) rfl (by kernel_rfl) ?_)
  refine jo 2 3 31 31 w.heap.size (snA 0 0 st0 (.pointer none)) _ (.int .i64 (jE r4)) rfl rfl rfl (setRow_heap _ _ _ _ _ _ hZ) underlying31 rfl (by kernel_rfl) rfl ?_
  exact z86
 case pos =>
 have q1:(jE r4 == 0)=true:=beq_iff_eq.2 he4;have q2:(jE r4 != 0)=false:=by rw [bne_eq_false_iff_eq];exact he4
 have HE4:=aa he4;clear he4 N5 hR8;go_upto_region 11 with fail
 obtain ⟨cc,W',hcv,hbC,Xh,hcC⟩:=PU w8 t4;have hL0:=MN (some ⟨w8.heap.size,0,none⟩) cc t4 W' (by omega) hcC Xh HC3.out;unfold RetCLZ at hL0;have hX9:=hX8.below hbC;have hZ9:=hZ.below hbC;have hb9:=below2 hbt hbC;have hlo:X<W'.heap.size:=Nat.lt_of_lt_of_le XC hbC.size;clear Xh hcC hX8 hZ hbt XC q1 q2;have hXr:=fun (V:World) (h:Below W'.heap.size W' V)=>hX9.below h;by_cases hr9:jE r'=0
 case neg =>
  have HC:Hid (ckE 0 r4 r' (kS c K d)=jE r'):=by unfold Hid ckE;rw [if_pos rfl,if_pos HE4.out,if_neg hr9]
  simp only [if_neg hr9] at hL0;have hne:=hr9;clear hr9;have HL:Hid (Calls prog 36 #[.slice (some ⟨w8.heap.size,0,none⟩) t4.length cc] W' fun x w'=>x=.returned (.tuple #[.pointer none,.int .i64 (jE r')])/\Below W'.heap.size W' w'):=aa hL0;have HNE:=aa hne;have q1:(jE r' == 0)=false:=beq_eq_false_iff_ne.2 hne;have q2:(jE r' != 0)=true:=by rw [bne_iff_ne];exact hne
  clear hL0 hne hXr;go_upto_region 12 with (go_at_call 36;(with_reducible refine HL.out.mono ?_);rintro x w10 ⟨rfl,rW⟩;have yI:=hX9.below rW;have c5:w10.cell? ⟨X,5,none⟩=some (.pointer none):=(by have:=yI.range 5 _ rfl;rwa [ar] at this);have c5f:=yI.free 5)
  refine y72 ?_
  intro W11 Ai hZ hbt
  clear Ai yI rW hX9 hZ9 hb9 c5 c5f
  go_wp2_with (refine wpList_store_row rfl 31 _ _ rfl w.heap.size (snA 0 0 st0 (.pointer none)) rfl rfl 31 (snA 0 0 st0 (.pointer none)) hZ (by kernel_rfl) rfl (by kernel_rfl) ?_)
  refine jo 2 3 31 31 w.heap.size (snA 0 0 st0 (.pointer none)) _ (.int .i64 (jE r')) rfl rfl rfl (setRow_heap _ _ _ _ _ _ hZ) underlying31 rfl (by kernel_rfl) rfl ?_
  exact z86
 case pos =>
 by_cases hld:kS c K d=0
 case neg =>
  have HC:Hid (ckE 0 r4 r' (kS c K d)=kS c K d):=by unfold Hid ckE;rw [if_pos rfl,if_pos HE4.out,if_pos hr9]
  simp only [if_pos hr9,if_neg hld] at hL0;have hne:=hld;clear hr9 hld;have HL:Hid (Calls prog 36 #[.slice (some ⟨w8.heap.size,0,none⟩) t4.length cc] W' fun x w'=>x=.returned (.tuple #[.pointer none,.int .i64 (kS c K d)])/\Below W'.heap.size W' w'):=aa hL0;have HNE:=aa hne;have q1:(kS c K d == 0)=false:=beq_eq_false_iff_ne.2 hne;have q2:(kS c K d != 0)=true:=by rw [bne_iff_ne];exact hne
  clear hL0 hne hXr;go_upto_region 12 with (go_at_call 36;(with_reducible refine HL.out.mono ?_);rintro x w10 ⟨rfl,rW⟩;have yI:=hX9.below rW;have c5:w10.cell? ⟨X,5,none⟩=some (.pointer none):=(by have:=yI.range 5 _ rfl;rwa [ar] at this);have c5f:=yI.free 5)
  refine y72 ?_
  intro W11 Ai hZ hbt
  clear Ai yI rW hX9 hZ9 hb9 c5 c5f
  go_wp2_with (refine wpList_store_row rfl 31 _ _ rfl w.heap.size (snA 0 0 st0 (.pointer none)) rfl rfl 31 (snA 0 0 st0 (.pointer none)) hZ (by kernel_rfl) rfl (by kernel_rfl) ?_)
  refine jo 2 3 31 31 w.heap.size (snA 0 0 st0 (.pointer none)) _ (.int .i64 (kS c K d)) rfl rfl rfl (setRow_heap _ _ _ _ _ _ hZ) underlying31 rfl (by kernel_rfl) rfl ?_
  exact z86
 case pos =>
 have HC:Hid (ckE 0 r4 r' (kS c K d)=0):=by unfold Hid ckE;rw [if_pos rfl,if_pos HE4.out,if_pos hr9];exact hld
 simp only [if_pos hr9,if_pos hld] at hL0;have HL:=aa hL0;clear hL0 hr9 hld hXr;go_upto_region 12 with (go_at_call 36;(with_reducible refine HL.out.mono ?_);rintro x w10 ⟨m,bm,t,rfl,hm,hiv,hrel,hdl,hmem,rW,hfo,hlw⟩;have yI:=hX9.below rW;have c5:w10.cell? ⟨X,5,none⟩=some (.pointer none):=(by have:=yI.range 5 _ rfl;rwa [ar] at this);have c5f:=yI.free 5)
 refine aU (fun W11 Ai=>?_);have hk:∀ q,q≠X->W11.heap[q]?=w10.heap[q]?:=fun q hq=>by rw [Ai.out];exact heap_setCell_other _ _ _ _ (fun e=>hq e.symm)
 have XD:SnBlk W11 X n1 n2 s3 (.pointer (some ⟨m,0,none⟩)):=by rw [Ai.out];exact yI.set5 _
 have Yi:=hm.cellAt yI hlo hk hfo hlw;have hZ:SnBlk W11 w.heap.size 0 0 st0 (.pointer none):=(hk _ (by omega)).trans (hZ9.below rW);have hbt:Below w.heap.size w W11:=by rw [Ai.out];exact (below2 hb9 rW).setCell (by simp only;omega) _
 have hrg:=XD.range;clear Ai yI rW hX9 hZ9 hb9 c5 c5f hk XD hm;go_wp2_with (first
  | ((with_reducible refine bC 31 _ X 0 (lN n1 n2 s3 (.pointer (some ⟨m,0,none⟩))) (.agg (snA n1 n2 s3 (.pointer (some ⟨m,0,none⟩)))) rfl _ underlying31 rfl (by kernel_rfl) hrg ?_ rfl ?_);exact rfl)
  | (refine wpList_store_row rfl 31 _ _ rfl w.heap.size (snA n1 n2 s3 (.pointer (some ⟨m,0,none⟩))) rfl rfl 31 (snA 0 0 st0 (.pointer none)) hZ (by kernel_rfl) rfl (by kernel_rfl) ?_))
 refine jo 2 3 31 31 w.heap.size (snA n1 n2 s3 (.pointer (some ⟨m,0,none⟩))) _ (.int .i64 0) rfl rfl rfl (setRow_heap _ _ _ _ _ _ hZ) underlying31 rfl (by kernel_rfl) rfl ?_;rw [HC.out];exact ⟨fun e9=>absurd rfl e9,fun _=>⟨m,bm,t,rfl,Yi.cellAt hZ (by omega) (fun q hq=>aY _ _ _ _ (fun e=>hq e.symm)) hfo hlw,hiv,hrel,hdl,hmem,fun q hq=>by have:=hfo q hq;omega,fun x hx A off h1 h2=>by have:=hlw x hx A off h1 h2;omega⟩,below_setRow hbt (al _) _⟩
theorem Tv {w:World} {k:Nat} {v:Value} {t:TypeId} {f:Nat×Nat} (h:w.heap[k]?=some (.cells #[v] t f)) (hv:∀ c,v≠.int .u8 c):NoByte w k:=by
 intro o c e;simp only [World.cell?,h] at e;match o,e with
 | 0,e=>exact hv c (by simpa using e)
 | o+1,e=>simp at e
theorem BytesIn.frS {S:Nat->Prop} {w w':World} {m:Bytes} {a:Option Addr} (hb:BytesIn w a m) (hf:Fr S w w') (hA:∀ A off,a=some ⟨A,off,none⟩->m≠[]->¬ S A):BytesIn w' a m:=by
 rcases hb with hb | ⟨A,off,rfl,hb⟩
 ·exact Or.inl hb
 ·exact Or.inr ⟨A,off,rfl,fun j hj=>hf.kept (hb j hj) (hA A off rfl (by intro e;subst e;simp at hj))⟩
section
variable {F:Nat->Prop} {d b:Nat}
/-- what the three steps of a laying down hold: the disk, the error's cell, the disk's cell, the bytes' cell -/
structure CkW (F:Nat->Prop) (d b:Nat) (S:DS) (E P Q:Nat) (a:Option Addr) (l:Bytes) (c:Nat) (w:World):Prop where
 dk:∃ D,DkIn w F d S b D
 e:w.heap[E]?=some (.cells #[.int .i64 0] 41 (0,0))
 p:w.heap[P]?=some (.cells #[.pointer (some ⟨d,0,none⟩)] 62 (0,0))
 q:w.heap[Q]?=some (.cells #[.slice a l.length c] 40 (0,0))
 bs:BytesIn w a l
 nE:¬ F E
 nP:¬ F P
 nQ:¬ F Q
 nA:∀ A off,a=some ⟨A,off,none⟩->l≠[]->¬ F A/\A≠E
 PE:P≠E
 QE:Q≠E
theorem eG {w:World} {E:Nat} {v:Value} {t:TypeId} (h:w.heap[E]?=some (.cells #[v] t (0,0))):w.cell? ⟨E,0,none⟩=some v/\w.frozen? ⟨E,0,none⟩=false:=by simp [World.cell?,World.frozen?,h]
/-- behind a change of the disk, and what is stored in the error's cell -/
theorem CkW.stepG {S S':DS} {E P Q:Nat} {a:Option Addr} {l:Bytes} {c:Nat} {w w' w2:World} {D':DataW Unit} (h:CkW F d b S E P Q a l c w) (hd:DkIn w' (grow F w) d S' b D') (hf:Fr F w w') (hfr:Fr (isR E) w' w2) (h2:w2.heap[E]?=some (.cells #[.int .i64 0] 41 (0,0))):CkW (grow F w) d b S' E P Q a l c w2:=by
 have hE':=(hf.block E (lt_of_block h.e) h.nE).trans h.e;have hlE:=lt_of_block h.e;have hlP:=lt_of_block h.p;have hlQ:=lt_of_block h.q;have hP':=(hf.block P hlP h.nP).trans h.p;have hQ':=(hf.block Q hlQ h.nQ).trans h.q;have ng:∀ k,¬ F k->k<w.heap.size->¬ grow F w k:=fun k h1 h2 h3=>by rcases h3 with h3 | h3;exact h1 h3;omega
 refine ⟨⟨D',hd.fr hfr (fun g hg=>by rw [show g=E from hg];exact Tv hE' (by simp)) (fun g hg hge=>ng _ h.nE hlE (hge▸hg))⟩,h2,(hfr.block P (lt_of_block hP') h.PE).trans hP',(hfr.block Q (lt_of_block hQ') h.QE).trans hQ',?_,ng _ h.nE hlE,ng _ h.nP hlP,ng _ h.nQ hlQ,?_,h.PE,h.QE⟩
 ·exact (BytesIn.frS h.bs hf (fun A off h1 h2=>(h.nA A off h1 h2).1)).frS hfr (fun A off h1 h2=>(h.nA A off h1 h2).2)
 ·intro A off h1 h2
  refine ⟨ng _ (h.nA A off h1 h2).1 ?_,(h.nA A off h1 h2).2⟩;have:=h.bs;rw [h1] at this;exact DT this h2
theorem CkW.step {S S':DS} {E P Q:Nat} {a:Option Addr} {l:Bytes} {c:Nat} {w w':World} {D':DataW Unit} (h:CkW F d b S E P Q a l c w) (hd:DkIn w' (grow F w) d S' b D') (hf:Fr F w w'):CkW (grow F w) d b S' E P Q a l c (w'.setCell ⟨E,0,none⟩ (.int .i64 0)) :=
 h.stepG hd hf (Fr.setCell (S:=isR E) (p:=⟨E,0,none⟩) (Fr.refl _ _) (Or.inr rfl) _) (by simp [World.setCell,Array.getElem?_modify,(hf.block E (lt_of_block h.e) h.nE).trans h.e])
end
def RetCkW (F:Nat->Prop) (d b:Nat) (S':DS) (E P Q:Nat) (a:Option Addr) (l:Bytes) (c:Nat) (w:World) (x:Ending) (w':World):Prop :=
 x=.returned (.tuple #[])/\CkW (grow F w) d b S' E P Q a l c w'/\Fr (fun k=>F k\/k=E) w w'
theorem Uj {F:Nat->Prop} {d b E P Q:Nat} {a:Option Addr} {l:Bytes} {c:Nat} (w:World) (hl:l.length=14) (h:CkW F d b ⟨[],0,false⟩ E P Q a l c w) :
 Calls prog 44 #[.func (.func 45) #[] #[.pointer (some ⟨P,0,none⟩),.pointer (some ⟨Q,0,none⟩)],.pointer (some ⟨E,0,none⟩)] w (RetCkW F d b ⟨[⟨jV,l,0⟩],0,false⟩ E P Q a l c w):=by
 obtain ⟨D,hD⟩:=h.dk;have HA:Hid (∀ (X:World) (D:DataW Unit),DkIn X F d ⟨[],0,false⟩ b D->BytesIn X a l->Calls prog 46 #[.pointer (some ⟨d,0,none⟩),.string jV,.slice a l.length c] X (RetDk F d b ⟨[⟨jV,l,0⟩],0,false⟩ 0 X)):=aa fun X D h9 h8=>by have:=Nq (cap2:=c) (s:=jV) (by decide) h9 DInv.new (by omega) h8;rw [XU l hl] at this;exact this
 clear hl;have e0:=eG h.e;have p0:=(eG h.p).1;have q0:=(eG h.q).1;have H2:Hid (Calls prog 45 #[.pointer (some ⟨P,0,none⟩),.pointer (some ⟨Q,0,none⟩)] w (RetDk F d b ⟨[⟨jV,l,0⟩],0,false⟩ 0 w)):=by
  have hbs:=h.bs;unfold Hid;clear e0;go_enter func45,ntmps45;go_wp2_with (go_at_call 46;go_loud ((with_reducible refine (HA.out _ _ hD hbs).mono ?_);rintro x w1 ⟨rfl,hd1,hf1⟩))
  go_ret;exact ⟨rfl,hd1,hf1⟩
 obtain ⟨e0,ef⟩:=e0;have hE:=h.e;have HS:=aa (fun (X:World) (D':DataW Unit) (h1:DkIn X (grow F w) d ⟨[⟨jV,l,0⟩],0,false⟩ b D') (h2:Fr F w X)=>h.step h1 h2);have HE1:=aa (fun (X:World) (h2:Fr F w X)=>eG ((h2.block E (lt_of_block hE) h.nE).trans hE));clear hD HA p0 q0 h hE;go_enter func44,ntmps44;go_wp2_with (go_at_call 45;(with_reducible refine H2.out.mono ?_);rintro x w1 ⟨rfl,⟨D1,hd1⟩,hf1⟩;obtain ⟨e1,e1f⟩:=HE1.out _ hf1)
 go_end0;exact ⟨rfl,HS.out _ _ hd1 hf1,Fr.setCell (S:=fun k=>F k\/k=E) (p:=⟨E,0,none⟩) (hf1.mono fun q _ hq=>Or.inl hq) (Or.inr (Or.inr rfl)) _⟩
theorem Ui {F:Nat->Prop} {d b E P Q:Nat} {a:Option Addr} {l:Bytes} {c:Nat} (w:World) (hl:l.length=14) (h:CkW F d b ⟨[⟨jV,l,0⟩],0,false⟩ E P Q a l c w) :
 Calls prog 44 #[.func (.func 47) #[] #[.pointer (some ⟨P,0,none⟩)],.pointer (some ⟨E,0,none⟩)] w (RetCkW F d b ⟨[⟨jV,l,l.length⟩],0,false⟩ E P Q a l c w):=by
 obtain ⟨D,hD⟩:=h.dk;have HA:Hid (∀ (X:World) (D:DataW Unit),DkIn X F d ⟨[⟨jV,l,0⟩],0,false⟩ b D->BytesIn X a l->Calls prog 48 #[.pointer (some ⟨d,0,none⟩),.string jV] X (RetDk F d b ⟨[⟨jV,l,l.length⟩],0,false⟩ 0 X)):=aa fun X D h9 h8=>by have:=SH (s:=jV) (by decide) h9 (UQ l hl).arm;rw [XT l] at this;exact this
 clear hl;have e0:=eG h.e;have p0:=(eG h.p).1;have q0:=(eG h.q).1;have H2:Hid (Calls prog 47 #[.pointer (some ⟨P,0,none⟩)] w (RetDk F d b ⟨[⟨jV,l,l.length⟩],0,false⟩ 0 w)):=by
  have hbs:=h.bs;unfold Hid;clear e0;go_enter func47,ntmps47;go_wp2_with (go_at_call 48;go_loud ((with_reducible refine (HA.out _ _ hD hbs).mono ?_);rintro x w1 ⟨rfl,hd1,hf1⟩))
  go_ret;exact ⟨rfl,hd1,hf1⟩
 obtain ⟨e0,ef⟩:=e0;have hE:=h.e;have HS:=aa (fun (X:World) (D':DataW Unit) (h1:DkIn X (grow F w) d ⟨[⟨jV,l,l.length⟩],0,false⟩ b D') (h2:Fr F w X)=>h.step h1 h2);have HE1:=aa (fun (X:World) (h2:Fr F w X)=>eG ((h2.block E (lt_of_block hE) h.nE).trans hE));clear hD HA p0 q0 h hE;go_enter func44,ntmps44;go_wp2_with (go_at_call 47;(with_reducible refine H2.out.mono ?_);rintro x w1 ⟨rfl,⟨D1,hd1⟩,hf1⟩;obtain ⟨e1,e1f⟩:=HE1.out _ hf1)
 go_end0;exact ⟨rfl,HS.out _ _ hd1 hf1,Fr.setCell (S:=fun k=>F k\/k=E) (p:=⟨E,0,none⟩) (hf1.mono fun q _ hq=>Or.inl hq) (Or.inr (Or.inr rfl)) _⟩
theorem Uh {F:Nat->Prop} {d b E P Q:Nat} {a:Option Addr} {l:Bytes} {c:Nat} (w:World) (hl:l.length=14) (h:CkW F d b ⟨[⟨jV,l,l.length⟩],0,false⟩ E P Q a l c w) :
 Calls prog 44 #[.func (.func 49) #[] #[.pointer (some ⟨P,0,none⟩)],.pointer (some ⟨E,0,none⟩)] w (RetCkW F d b ⟨[⟨kW,l,l.length⟩],0,false⟩ E P Q a l c w):=by
 obtain ⟨D,hD⟩:=h.dk;have HA:Hid (∀ (X:World) (D:DataW Unit),DkIn X F d ⟨[⟨jV,l,l.length⟩],0,false⟩ b D->BytesIn X a l->Calls prog 50 #[.pointer (some ⟨d,0,none⟩),.string jV,.string kW] X (RetDk F d b ⟨[⟨kW,l,l.length⟩],0,false⟩ 0 X)):=aa fun X D h9 h8=>by have:=Na (s:=jV) (t:=kW) (by decide) (by decide) h9 (NU l hl).srt.uniq (NU l hl).arm (NU l hl).len;rw [XR l l.length] at this;exact this
 clear hl;have e0:=eG h.e;have p0:=(eG h.p).1;have q0:=(eG h.q).1;have H2:Hid (Calls prog 49 #[.pointer (some ⟨P,0,none⟩)] w (RetDk F d b ⟨[⟨kW,l,l.length⟩],0,false⟩ 0 w)):=by
  have hbs:=h.bs;unfold Hid;clear e0;go_enter func49,ntmps49;go_wp2_with (go_at_call 50;go_loud ((with_reducible refine (HA.out _ _ hD hbs).mono ?_);rintro x w1 ⟨rfl,hd1,hf1⟩))
  go_ret;exact ⟨rfl,hd1,hf1⟩
 obtain ⟨e0,ef⟩:=e0;have hE:=h.e;have HS:=aa (fun (X:World) (D':DataW Unit) (h1:DkIn X (grow F w) d ⟨[⟨kW,l,l.length⟩],0,false⟩ b D') (h2:Fr F w X)=>h.step h1 h2);have HE1:=aa (fun (X:World) (h2:Fr F w X)=>eG ((h2.block E (lt_of_block hE) h.nE).trans hE));clear hD HA p0 q0 h hE;go_enter func44,ntmps44;go_wp2_with (go_at_call 49;(with_reducible refine H2.out.mono ?_);rintro x w1 ⟨rfl,⟨D1,hd1⟩,hf1⟩;obtain ⟨e1,e1f⟩:=HE1.out _ hf1)
 go_end0;exact ⟨rfl,HS.out _ _ hd1 hf1,Fr.setCell (S:=fun k=>F k\/k=E) (p:=⟨E,0,none⟩) (hf1.mono fun q _ hq=>Or.inl hq) (Or.inr (Or.inr rfl)) _⟩
theorem MJ {F:Nat->Prop} {d b B m:Nat} {D:DataW Unit} {mb:MB} (w:World) (hD:DkIn w F d ⟨[],0,false⟩ b D) (hF:∀ k,F k->B<=k/\k<w.heap.size) (hB:B<=w.heap.size) (hm:MpIn w m mb MS.empty) :
 Calls prog 15 #[.pointer (some ⟨d,0,none⟩),snV 3 2 ⟨9,0,0⟩ (.pointer (some ⟨m,0,none⟩))] w fun x w'=>x=.returned (.int .i64 0)/\(∃ D',DkIn w' (fun k=>B<=k) d ⟨[⟨kW,frameB awB,(frameB awB).length⟩],0,false⟩ b D')/\Below B w w':=by
 have HBy:Hid (∀ X,MpIn X m mb MS.empty->Calls prog 7 #[snV 3 2 ⟨9,0,0⟩ (.pointer (some ⟨m,0,none⟩))] X (N7 (frameB awB) X)):=aa fun X hX=>by
  have:=zN 3 2 ⟨9,0,0⟩ X hX MInv.empty List.nodup_nil (by decide) (by decide) (by rw [NT];decide) (by decide) (by decide) (by decide) (by rw [NV];decide);rw [NV] at this;exact this
 have hl:=G8;generalize frameB awB=l at *;have HRm:Hid (∀ (X:World) (D:DataW Unit),DkIn X F d ⟨[],0,false⟩ b D->Calls prog 43 #[.pointer (some ⟨d,0,none⟩),.string jV] X (RetDk F d b ⟨[],0,false⟩ 10 X)):=aa fun X D h9=>Nb (s:=jV) (by decide) h9 DInv.new.srt.uniq (by decide);have HL:=aa hl;clear hl;have hmf:∀ (fn:Fn) (first cap:Array Value) (w:World),(Instr.makeFunc fn first cap).run prog w=.ok (.func fn first cap) w:=fun _ _ _ _=>rfl;go_enter func15,ntmps15;go_upto_region 1 with fail
 refine aU (fun W hW=>?_);have hbt:Below w.heap.size w W:=by rw [hW.out];go_grown
 have p0:W.heap[w.heap.size]?=some (.cells #[.pointer (some ⟨d,0,none⟩)] 62 (0,0)):=by rw [hW.out];exact (((Below.refl _ _).alloc (al _) _).block _ (by simp)).trans (cu _ _)
 have hR:W.rangeAt (w.heap.size+1) 0 (lN 3 2 ⟨9,0,0⟩ (.pointer (some ⟨m,0,none⟩))):=by
  rw [hW.out];have:=o8 3 2 ⟨9,0,0⟩ (.pointer (some ⟨m,0,none⟩)) (w.alloc (.cells #[.pointer (some ⟨d,0,none⟩)] 62)) 31;rw [show (w.alloc (.cells #[.pointer (some ⟨d,0,none⟩)] 62)).heap.size=w.heap.size+1 by simp] at this;exact this
 have hmW:=hm.kept_w hbt;have hDW:=hD.below hbt;clear hW hm hD;have c0:=(eG p0).1;go_upto_region 4 with (first
  | ((with_reducible refine bC 31 _ (w.heap.size+1) 0 (lN 3 2 ⟨9,0,0⟩ (.pointer (some ⟨m,0,none⟩))) (snV 3 2 ⟨9,0,0⟩ (.pointer (some ⟨m,0,none⟩))) rfl _ underlying31 rfl (by kernel_rfl) hR ?_ rfl ?_);exact rfl)
  | (go_at_call 7;(with_reducible refine (HBy.out _ hmW).mono ?_);rintro x w1 ⟨v,rfl,hown,hb1⟩;obtain ⟨a,c,rfl,hin⟩:=bT hown))
 have hlt:=fun A off (h1:a=some ⟨A,off,none⟩)=>(hown.lt A (by rw [h1];rfl)).1;have Xd:=fun A off (h1:a=some ⟨A,off,none⟩)=>(hown.lt A (by rw [h1];rfl)).2;have hzW:w.heap.size<W.heap.size:=lt_of_block p0;have hz1:=hb1.size;refine aU (fun W4 hW4=>?_);have hb4:Below w1.heap.size w1 W4:=by rw [hW4.out];go_grown
 have q4:W4.heap[w1.heap.size]?=some (.cells #[.slice a l.length c] 40 (0,0)):=by rw [hW4.out];exact (((Below.refl _ _).alloc (al _) _).block _ (by simp)).trans (cu _ _)
 have e4:W4.heap[w1.heap.size+1]?=some (.cells #[.int .i64 0] 41 (0,0)):=by rw [hW4.out];exact oI _ _ _
 clear hW4;have hD4:=(hDW.below hb1).below hb4;have p4:=(hb4.block _ (by omega)).trans ((hb1.block _ hzW).trans p0);have K4:CkW F d b ⟨[],0,false⟩ (w1.heap.size+1) w.heap.size w1.heap.size a l c W4:=⟨⟨_,hD4⟩,e4,p4,q4,BytesIn.kept hin hb4,fun h=>by have:=(hF _ h).2;omega,fun h=>by have:=(hF _ h).2;omega,fun h=>by have:=(hF _ h).2;omega,fun A off h1 _=>⟨fun h=>by have:=(hF _ h).2;have:=hlt A off h1;omega,by have:=Xd A off h1;omega⟩,by omega,by omega⟩;have TN:Below w.heap.size w W4:=below2 (below2 hbt hb1) hb4;obtain ⟨E,hE⟩:∃ E,E=w1.heap.size+1:=⟨_,rfl⟩;obtain ⟨Q,hQ⟩:∃ Q,Q=w1.heap.size:=⟨_,rfl⟩;have hES:B<=E:=by omega
 rw [<- hE,<- hQ] at K4 ⊢;clear hE hQ hD4 p4 q4 e4 hlt Xd hin hown hb1 hb4 hDW hmW hR c0 p0 hbt hz1 hzW HBy;obtain ⟨D4,hD4⟩:=K4.dk;have e0:=eG K4.e;have c0:=(eG K4.p).1;obtain ⟨e0,ef0⟩:=e0;have HE1:=aa (fun (X:World) (h2:Fr F W4 X)=>(h2.block E (lt_of_block K4.e) K4.nE).trans K4.e);go_upto_region 7 with (go_at_call 43;(with_reducible refine (HRm.out _ _ hD4).mono ?_);rintro x w5 ⟨rfl,⟨D5,hd5⟩,hf5⟩;have e5c:=HE1.out _ hf5;obtain ⟨e5,e5f⟩:=eG e5c)
 go_upto_region 9 with fail
 refine aU (fun W8 hW8=>?_);have Vw:Fr (isR E) w5 W8:=by rw [hW8.out];exact Fr.setCell (S:=isR E) (p:=⟨E,0,none⟩) (Fr.setCell (S:=isR E) (p:=⟨E,0,none⟩) (Fr.refl _ _) (Or.inr rfl) _) (Or.inr rfl) _
 have e8:W8.heap[E]?=some (.cells #[.int .i64 0] 41 (0,0)):=by rw [hW8.out];simp [World.setCell,Array.getElem?_modify,e5c]
 have K8:=K4.stepG hd5 hf5 Vw e8;have Xw:Below B W4 W8:=(hf5.below (Nat.le_trans hB TN.size) (fun k hk=>(hF k hk).1)).trans (Vw.below (Nat.le_trans (Nat.le_trans hB TN.size) hf5.size) (fun k hk=>by rw [show k=E from hk];exact hES));have hG:∀ k,grow F W4 k->B<=k:=fun k hk=>by rcases hk with hk | hk;exact (hF k hk).1;exact Nat.le_trans (Nat.le_trans hB TN.size) hk
 have hb8:Below B w W8:=(TN.mono hB).trans Xw;clear hW8 Vw e8 e5 e5f e5c HE1 hd5 hf5 e0 ef0 c0 hD4 K4 Xw HRm;have hz8:B<=W8.heap.size:=Nat.le_trans hB hb8.size;go_upto_region 11 with (go_at_call 44;(refine (Uj _ HL.out K8).mono ?_);rintro x w9 ⟨rfl,K9,hf9⟩)
 have hb9:=hb8.trans (hf9.below hz8 (fun k hk=>by rcases hk with hk | hk;exact hG k hk;rw [hk];exact hES));have hG9:∀ k,grow (grow F W4) W8 k->B<=k:=fun k hk=>by rcases hk with hk | hk;exact hG k hk;exact Nat.le_trans hz8 hk
 have hz9:B<=w9.heap.size:=Nat.le_trans hB hb9.size;clear K8 hf9 hb8 hG;go_upto_region 12 with (go_at_call 44;(refine (Ui _ HL.out K9).mono ?_);rintro x w10 ⟨rfl,K10,Xq⟩)
 have rW:=hb9.trans (Xq.below hz9 (fun k hk=>by rcases hk with hk | hk;exact hG9 k hk;rw [hk];exact hES));have XH:∀ k,grow (grow (grow F W4) W8) w9 k->B<=k:=fun k hk=>by rcases hk with hk | hk;exact hG9 k hk;exact Nat.le_trans hz9 hk
 have WC:B<=w10.heap.size:=Nat.le_trans hB rW.size;clear K9 Xq hb9 hG9;go_upto_region 13 with (go_at_call 44;(refine (Uh _ HL.out K10).mono ?_);rintro x w11 ⟨rfl,K11,Yo⟩)
 have VE:=rW.trans (Yo.below WC (fun k hk=>by rcases hk with hk | hk;exact XH k hk;rw [hk];exact hES));obtain ⟨e9,-⟩:=eG K11.e;obtain ⟨D11,YA⟩:=K11.dk;go_wp2;go_ret;exact ⟨rfl,⟨D11,YA.mono fun k hk=>by rcases hk with hk | hk;exact XH k hk;exact Nat.le_trans WC hk⟩,VE⟩
theorem PW {F:Nat->Prop} {d b:Nat} {D:DataW Unit} (w:World) (hD:DkIn w F d ⟨[⟨kW,frameB awB,(frameB awB).length⟩],0,false⟩ b D) :
 Calls prog 18 #[.pointer (some ⟨d,0,none⟩)] w fun x w'=>(∃ m bm t,x=.returned (.tuple #[.agg (snA 3 2 ⟨9,0,0⟩ (.pointer (some ⟨m,0,none⟩))),.int .i64 0])/\MpIn w' m bm t/\t.K.length=0)/\Below w.heap.size w w':=by
 have HP:Hid (∀ (X:World) (a:Option Addr) (c:Nat),(frameB awB).length<=c->BytesIn X a (frameB awB)->Calls prog 9 #[.slice a (frameB awB).length c] X fun x w'=>(∃ m bm t,x=.returned (.tuple #[.agg (snA 3 2 ⟨9,0,0⟩ (.pointer (some ⟨m,0,none⟩))),.int .i64 0])/\MpIn w' m bm t/\t.K.length=0/\(∀ q,foot bm t.A q->X.heap.size<=q)/\∀ x∈t.K,JZ X.heap.size x)/\Below X.heap.size X w'):=aa fun X a c hc hX =>
  (zM a c (frameB awB) X (by rw [G8];decide) hc hX VS Ul Um).mono fun x w' h=>by
   obtain ⟨_,h2,h3⟩:=h;obtain ⟨m,bm,t,g1,g2,_,_,_,g6,g7,g8⟩:=h2 (by unfold ckE;rw [XP];rfl);exact ⟨⟨m,bm,t,g1,g2,by cases hK:t.K with | nil=>rfl | cons y l=>exact absurd (g6 y (by rw [hK];simp)) (by simp),g7,g8⟩,h3⟩
 have VH:=fun (X:World) (D:DataW Unit) (h9:DkIn X F d ⟨[⟨kW,frameB awB,(frameB awB).length⟩],0,false⟩ b D)=>SY (f:=⟨kW,frameB awB,(frameB awB).length⟩) (s:=kW) (by decide) h9 (by decide) (by rfl) (by rfl) (by rw [G8];decide);simp only at VH;have HR:=aa VH;clear VH;generalize frameB awB=l at *;go_enter func18,ntmps18;go_upto_region 1 with fail
 refine aU (fun W hW=>?_);have hbt:Below w.heap.size w W:=by rw [hW.out];exact (Below.refl _ _).alloc (al _) _
 have hZ:SnBlk W w.heap.size 0 0 st0 (.pointer none):=by rw [hW.out];exact heap_alloc_last w _
 have hDW:=hD.below hbt;clear hW hD;go_upto_region 4 with (go_at_call 54;(with_reducible refine (HR.out _ _ hDW).mono ?_);rintro x w1 ⟨v,rfl,hown,hb1⟩)
 obtain ⟨ab,cb,rfl,Pz⟩:=bT hown;have hcb:=BN hown;replace hZ:=hZ.below hb1;replace hbt:=below2 hbt hb1;have hZl:=hZ.lt;clear hown hb1 hDW HR;go_wp2_with (first
  | (go_at_call 9;(with_reducible refine (HP.out _ _ _ hcb Pz).mono ?_);rintro x w2 ⟨⟨m,bm,t,rfl,hm,hK,hfo,hlo⟩,hb2⟩;have hZ2:=hZ.below hb2)
  | (refine wpList_store_row rfl 31 _ _ rfl w.heap.size (snA 3 2 ⟨9,0,0⟩ (.pointer (some ⟨m,0,none⟩))) rfl rfl 31 (snA 0 0 st0 (.pointer none)) hZ2 (by kernel_rfl) rfl (by kernel_rfl) ?_))
 refine jo 2 3 31 31 w.heap.size (snA 3 2 ⟨9,0,0⟩ (.pointer (some ⟨m,0,none⟩))) _ (.int .i64 0) rfl rfl rfl (setRow_heap _ _ _ _ _ _ hZ2) underlying31 rfl (by kernel_rfl) rfl ?_;exact ⟨⟨m,bm,t,rfl,hm.cellAt hZ2 hZl (fun q hq=>aY _ _ _ _ (fun e=>hq e.symm)) hfo hlo,hK⟩,below_setRow (below2 hbt hb2) (al _) _⟩
theorem JR (w:World):Calls prog 5 #[] w fun e w'=>e=.returned (.bool true)/\Below w.heap.size w w':=by
 have HN:=aa (Uw w);have HM:=aa (fun X=>Cc X);have HCr:Hid (∀ (X:World) (F:Nat->Prop) (d b:Nat) (D:DataW Unit),DkIn X F d ⟨[⟨kW,frameB awB,(frameB awB).length⟩],0,false⟩ b D->Calls prog 17 #[.pointer (some ⟨d,0,none⟩),.slice none 0 0] X fun e w'=>e=.returned (.tuple #[])/\DkIn w' F d ⟨[⟨kW,frameB awB,(frameB awB).length⟩],0,false⟩ b D/\Fr F X w'):=aa fun X F d b D h=>by
  have:=Qo (ak:=none) (ck:=0) [] h (XQ _ G8) (by simp) (fun p hp=>(nomatch hp)) (Or.inl rfl);rw [YC] at this;exact this
 go_enter func5,ntmps5;go_upto_region 2 with (go_at_call 14;(with_reducible refine HN.out.mono ?_);rintro e w1 ⟨rfl,hD1,hb1⟩)
 have hT:=hD1.tight;have hz1:=hb1.size;clear hD1 HN;go_upto_region 3 with (first
  | (refine Great.wpList_buildTo rfl 23 _ rfl _ rfl #[.int .i64 9,.int .i64 0,.int .i64 0] (by kernel_rfl) ?_)
  | (go_at_call 16;(with_reducible refine (HM.out _).mono ?_);rintro e w2 ⟨m,mb,rfl,hm,hb2,-,-⟩;have HW:=aa (MJ (B:=w.heap.size) w2 (hT.below hb2) (fun k hk=>⟨hk.1,Nat.lt_of_lt_of_le hk.2 hb2.size⟩) (Nat.le_trans hz1 hb2.size) hm))
  | (refine Great.wpList_buildTo rfl 31 _ rfl _ rfl (snA 3 2 ⟨9,0,0⟩ (.pointer (some ⟨m,0,none⟩))) (by kernel_rfl) ?_)
  | (go_at_call 15;(refine HW.out.mono ?_);rintro e w3 ⟨rfl,⟨D3,hD3⟩,hb3⟩))
 have Jk:Below w.heap.size w w3:=(hb1.trans (hb2.mono hz1)).trans hb3;have hz3:=Jk.size;clear HW hm hT HM hb2 hb3 hb1;go_upto_region 4 with (go_at_call 17;(with_reducible refine (HCr.out _ _ _ _ _ hD3).mono ?_);rintro e w4 ⟨rfl,hD4,hf4⟩)
 have hb4:Below w.heap.size w w4:=Jk.trans (hf4.below hz3 (fun k hk=>hk));have hz4:=hb4.size;have HRd:=aa (PW w4 hD4);clear hD3 hD4 hf4 Jk HCr;go_upto_region 5 with (first
  | (go_at_call 18;(with_reducible refine HRd.out.mono ?_);rintro e w5 ⟨⟨m5,bm,t,rfl,hm5,hK⟩,hb5⟩)
  | (refine bH 31 _ _ _ (snA 3 2 ⟨9,0,0⟩ (.pointer (some ⟨m5,0,none⟩))) rfl rfl (by kernel_rfl) rfl (by kernel_rfl) ?_))
 refine aU (fun W hW=>?_);have hbW:Below w5.heap.size w5 W:=by rw [hW.out];exact (Below.refl _ _).alloc (al _) _
 have hR:W.rangeAt w5.heap.size 0 (lN 3 2 ⟨9,0,0⟩ (.pointer (some ⟨m5,0,none⟩))):=by rw [hW.out];exact o8 _ _ _ _ _ _
 have hL:=IU W (hm5.kept_w hbW);rw [hK] at hL;have HL:Hid (Calls prog 19 #[.pointer (some ⟨m5,0,none⟩)] W fun e w'=>e=.returned (.int .i64 0)/\W=w'):=aa hL;have hb6:=hb4.trans ((below2 hb5 hbW).mono hz4);have r0:W.cell? ⟨w5.heap.size,0,none⟩=some (.int .i64 3):=hR 0 _ rfl;have r1:W.cell? ⟨w5.heap.size,1,none⟩=some (.int .i64 2):=hR 1 _ rfl;have r2:W.cell? ⟨w5.heap.size,2,none⟩=some (.int .i64 9):=hR 2 _ rfl;have r5:W.cell? ⟨w5.heap.size,5,none⟩=some (.pointer (some ⟨m5,0,none⟩)):=hR 5 _ rfl;clear hW hR hL hK hm5 hbW hb5 hb4 HRd;go_wp2_with (go_at_call 19;(with_reducible refine HL.out.mono ?_);rintro e w7 ⟨rfl,rfl⟩)
 go_ret;exact ⟨rfl,hb6⟩
end Go.Proofs.YtffobmpeeopadaaGreat
