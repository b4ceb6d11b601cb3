/- checkpoint.Parse. Conditions: at most 2^30 bytes. -/
import Derived.Test.YtepkclldbkhanaaGreatCkA
import Derived.Test.YtepkclldbkhanaaGreatCanL
import Derived.Lib.ConvBytes
import Derived.Test.YtepkclldbkhanaaGreatEq
import Derived.OrdersHeld
import Derived.Deep.RegionLaw
import Derived.Deep.RegionHeld3
import Derived.BigQuiet
import Derived.Test.YtepkclldbkhanaaGreatVGet
import Derived.Test.YtepkclldbkhanaaGreatLoad
import Derived.Test.YtepkclldbkhanaaGreatCel
set_option linter.unusedSimpArgs false
set_option linter.unusedVariables false
set_option linter.unnecessarySimpa false
set_option maxHeartbeats 16000000
set_option maxRecDepth 100000
open Go.Proofs.Tryz
namespace Go.Proofs.YtepkclldbkhanaaGreat
open Go.RowKit
/-- '[]byte(s)': new bytes -/
theorem Ep (X:World) (l:Bytes):∃ c W',(convert 9 22 (.string (mkS l))).run prog X=.ok (.slice (some ⟨X.heap.size,0,none⟩) l.length c) W'∧Below X.heap.size X W'∧BytesIn W' (some ⟨X.heap.size,0,none⟩) l∧l.length≤c:=by
 have h:=Lib.run_convert_string_bytes X 9 22 5 (mkS l) underlying9 underlying22 underlying5;refine ⟨_,_,h,⟨rfl,rfl,rfl,by rw [Lib.bytesWorld_size];omega,fun k hk=>Lib.bytesWorld_at_old _ _ _ _ hk⟩,Or.inr ⟨_,_,rfl,fun j hj=>?_⟩,?_⟩
 ·rw [Nat.zero_add,Lib.bytesWorld_cell X 5 (mkS l) j hj]
  simp [mkS,hj]
 ·exact Go.grownCap_ge _ _ _ _
abbrev snA (d i:Int) (s:Stamp) (v:Value):Array Value:=#[.int .i64 d,.int .i64 i,.int .i64 s.wall,.int .i64 s.count,.int .i64 s.dev,v]
/-- block X holds a snapshot -/
def SnBlk (w:World) (X:Nat) (d i:Int) (s:Stamp) (v:Value):Prop:=w.heap[X]?=some (.cells (snA d i s v) 28 (0,0))
section
variable {w w':World} {X:Nat} {d i:Int} {s:Stamp} {v:Value}
theorem SnBlk.lt (h:SnBlk w X d i s v):X<w.heap.size:=lt_of_block h
theorem SnBlk.below (h:SnBlk w X d i s v) (hb:Below w.heap.size w w'):SnBlk w' X d i s v:=(hb.block _ h.lt).trans h
theorem SnBlk.fr {S:Nat→Prop} (h:SnBlk w X d i s v) (hf:Fr S w w') (hs:¬ S X):SnBlk w' X d i s v:=(hf.block _ h.lt hs).trans h
theorem SnBlk.range (h:SnBlk w X d i s v):w.rangeAt X 0 (tN d i s v):=fun j u hu=>by
 rw [Nat.zero_add];simp only [World.cell?,show w.heap[X]?=_ from h];simpa using hu
theorem SnBlk.free (h:SnBlk w X d i s v) (o:Nat):w.frozen? ⟨X,o,none⟩=false:=by
 simp [World.frozen?,show w.heap[X]?=_ from h]
theorem SnBlk.there2 (h:SnBlk w X d i s v):w.there X 2 3:=fun j hj=>by
 refine ⟨?_,h.free _⟩;have hlt:2+j<(tN d i s v).length:=by simp;omega
 have:=h.range (2+j) _ (List.getElem?_eq_getElem hlt);rw [Nat.zero_add] at this;rw [this];rfl
theorem SnBlk.set2 (h:SnBlk w X d i s v) (t:Stamp):SnBlk (w.setCells X 2 [.int .i64 t.wall,.int .i64 t.count,.int .i64 t.dev]) X d i t v:=by
 simp [SnBlk,World.setCells,World.setCell,Array.getElem?_modify,show w.heap[X]?=_ from h]
theorem SnBlk.set5 (h:SnBlk w X d i s v) (u:Value):SnBlk (w.setCell ⟨X,5,none⟩ u) X d i s u:=by
 simp [SnBlk,World.setCell,Array.getElem?_modify,show w.heap[X]?=_ from h]
theorem MpIn.cellAt {m:Nat} {b:MB} {t:MS} {lo:Nat} (h:MpIn w m b t) (hx:SnBlk w X d i s v) (hX:X<lo) (hk:∀ q,q≠X→w'.heap[q]?=w.heap[q]?) (hf:∀ q,foot b t.A q→lo≤q) (ho:∀ x∈t.K,I9 lo x):MpIn w' m b t:=by
 have hx':w.heap[X]?=Option.some (.cells (snA d i s v) 28 (0,0)):=hx;have hm:m≠X:=fun e=>by have:=h.cell;rw [e,hx'] at this;simp at this
 have hv:b.v≠X:=fun e=>by have:=h.vec.cell;rw [e,hx'] at this;simp at this
 have g:∀ k,foot b t.A k→k≠X:=fun k hk=>by have:=hf k hk;omega
 exact ⟨(hk m hm).trans h.cell,h.vec.block (hk _ hv) (hk _ (g _ (LU b _))),h.kept.block (hk _ (g _ (mM b _))),fun x hx=>(h.overs x hx).keep (fun A off h1 h2=>hk A (by have:=ho x hx A off h1 h2;omega)),h.dead.block (hk _ (g _ (oN b _))),h.alive.block (hk _ (g _ (ku b _))),fun p hp=>(h.inner p hp).block (hk _ (g _ (sV b hp))),h.some,h.keys,h.nodup⟩
end
/-- the error that Parse answers -/
def ckE (e0:Int) (r r':Rd) (ld:Int):Int:=if e0=0 then (if eX r=0 then (if eX r'=0 then ld else eX r') else eX r) else e0
def st0:Stamp:=⟨0,0,0⟩
/-- behind Parse -/
def UH (e:Int) (dev inc:Nat) (st:Stamp) (c:List Dot) (K:List Ev) (d:List Dot) (w:World) (x:Ending) (w':World):Prop :=
 (e≠0→x=.returned (.tuple #[.agg (snA 0 0 st0 (.pointer none)),.int .i64 e])) ∧
 (e=0→∃ m b s,x=.returned (.tuple #[.agg (snA dev inc st (.pointer (some ⟨m,0,none⟩))),.int .i64 0])∧MpIn w' m b s∧MInv s∧Rel s ⟨c,K,d⟩∧s.dead.length≤d.length∧(∀ x∈s.K,x.1∈K)∧(∀ q,foot b s.A q→w.heap.size≤q)∧∀ x∈s.K,I9 w.heap.size x)∧Below w.heap.size w w'
theorem z35 {p : Prop} (h : p := by
 rw [HC.out]
 exact ⟨fun _ => rfl, fun e9 => absurd e9 HNE.out, below_setRow hbt (Nat.le_refl _) _⟩) : p := h
theorem y47 {p q : Prop} (k : q) (h : PLift q → p := by
 intro kk
 refine au (fun W11 tV => ?_)
 have hZ : SnBlk W11 w.heap.size 0 0 st0 (.pointer none) := by rw [tV.out]; exact (heap_setCell_other _ _ _ _ (by simp only; omega)).trans (hZ9.below qW)
 have hbt : Below w.heap.size w W11 := by rw [tV.out]; exact (below2 hb9 qW).setCell (by simp only; omega) _
 revert W11 tV hZ hbt
 exact kk.down) : p := h ⟨k⟩
theorem yI (a:Option Addr) (cap:Nat) (l:Bytes) (w:World) (hl:l.length≤1073741824) (hcap:l.length≤cap) (h:BytesIn w a l) {body full:Bytes} {e0:Int} (h1:nV l=(body,e0)) {r r':Rd} {dev inc:Nat} {st:Stamp} (h2:ou body=(r,dev,inc,st,full)) {c:List Dot} {K:List Ev} {d:List Dot} (h3:jL full=(r',c,K,d)) :
 Calls prog 5 #[.slice a l.length cap] w (UH (ckE e0 r r' (gu c K d)) dev inc st c K d w):=by
 have HO0:=fun (W:World) (h:BytesIn W a l)=>F7 a cap l W hl hcap h;have hfit:=sU l;have hbl:e0=0→body.length≤1048576:=fun he=>by
  rw [← show (nV l).1=body by rw [h1]];unfold nV;have:=sU l;split
  ·split
   ·simp
   ·simp only;omega
  ·simp
 rw [h1] at HO0;unfold Lc at HO0;simp only at HO0;have HO:=Lib.hid HO0;clear HO0 hfit h1;go_enter func5,ntmps5;go_upto_region 1 with fail
 refine au (fun W hW=>?_);have hbt:Below w.heap.size w W:=by rw [hW.out];exact (Below.refl _ _).alloc (Nat.le_refl _) _
 have hZ:SnBlk W w.heap.size 0 0 st0 (.pointer none):=by rw [hW.out];exact heap_alloc_last w _
 have hin:=h.kept hbt;clear hW h;by_cases he0:e0=0
 case neg =>
  have HC:Hid (ckE e0 r r' (gu c K d)=e0):=by unfold Hid ckE;rw [if_neg he0]
  have HNE:=Lib.hid he0;have q1:(e0 == 0)=false:=beq_eq_false_iff_ne.2 he0;have q2:(e0 != 0)=true:=by rw [bne_iff_ne];exact he0
  clear he0 hbl;go_upto_region 3 with (go_at_call 16;(with_reducible refine (HO.out _ hin).mono ?_);rintro x w1 ⟨v,rfl,hown,hb⟩)
  replace hZ:=hZ.below hb;replace hbt:=below2 hbt hb;clear hb hown hin;go_wp2_with (refine wpList_store_row rfl 28 _ _ rfl w.heap.size (snA 0 0 st0 (.pointer none)) rfl rfl 28 (snA 0 0 st0 (.pointer none)) hZ (by kernel_rfl) rfl (by kernel_rfl) ?_)
  refine dK 2 3 28 28 w.heap.size (snA 0 0 st0 (.pointer none)) _ (.int .i64 e0) rfl rfl rfl (setRow_heap _ _ _ _ _ _ hZ) underlying28 rfl (by kernel_rfl) rfl ?_
  exact z35
 case pos =>
 subst he0;have XU:=hbl rfl;clear hbl;have f1:=bf 63 ⟨body,0⟩;have N1':∀ (R:Nat) (W:World),RdAt W R ⟨body,0⟩→Calls prog 18 #[.pointer (some ⟨R,0,none⟩),.int .u64 63] W (ig R (bg 63 ⟨body,0⟩).1 (.int .u64 (bg 63 ⟨body,0⟩).2) W):=fun R W h=>oD R ⟨body,0⟩ 63 W (by simp only;omega) (by omega) h;obtain ⟨r1,n1,g1⟩:∃ x y,bg 63 ⟨body,0⟩=(x,y):=⟨_,_,rfl⟩;rw [g1] at f1 N1';simp only at f1 N1';have f2:=bf 1048576 r1;have N2':∀ (R:Nat) (W:World),RdAt W R r1→Calls prog 18 #[.pointer (some ⟨R,0,none⟩),.int .u64 1048576] W (ig R (bg 1048576 r1).1 (.int .u64 (bg 1048576 r1).2) W):=fun R W h=>oD R r1 1048576 W (by omega) (by omega) h;obtain ⟨r2,n2,g2⟩:∃ x y,bg 1048576 r1=(x,y):=⟨_,_,rfl⟩;rw [g2] at f2 N2';simp only at f2 N2';have f3:=nJ r2;have N3':∀ (R:Nat) (W:World),RdAt W R r2→Calls prog 19 #[.pointer (some ⟨R,0,none⟩)] W (ig R (dZ r2).1 (iO (dZ r2).2) W):=fun R W h=>Cc R r2 W (by omega) h;obtain ⟨r3,s3,g3⟩:∃ x y,dZ r2=(x,y):=⟨_,_,rfl⟩;rw [g3] at f3 N3';simp only at f3 N3';have f4:=bV 1048576 r3;have N4':∀ (R:Nat) (W:World),RdAt W R r3→Calls prog 20 #[.pointer (some ⟨R,0,none⟩),.int .i64 1048576] W (ig R (aN 1048576 r3).1 (.string (mkS (aN 1048576 r3).2)) W):=fun R W h=>Cm R r3 1048576 W (by omega) (by omega) h;obtain ⟨r4,t4,g4⟩:∃ x y,aN 1048576 r3=(x,y):=⟨_,_,rfl⟩;rw [g4] at f4 N4';simp only at f4 N4';have hxx:ou body=(r4,n1,n2,s3,t4):=by unfold ou;simp only [g1,g2,g3,g4]
 rw [hxx] at h2;simp only [Prod.mk.injEq] at h2;obtain ⟨rfl,rfl,rfl,rfl,rfl⟩:=h2;have N1:=Lib.hid N1';have N2:=Lib.hid N2';have N3:=Lib.hid N3';have N4:=Lib.hid N4';have N5:=Lib.hid (fun (R:Nat) (W:World) (h:RdAt W R r4)=>TC R r4 W h (by omega));have b1:=f1.2;have b2:=f2.2;have b4:=f4.2;clear N1' N2' N3' N4' g1 g2 g3 g4 f1 f2 f3 f4 hxx;have HC3:=Lib.hid h3;clear h3;go_upto_region 4 with (go_at_call 16;(with_reducible refine (HO.out _ hin).mono ?_);rintro x w1 ⟨v,rfl,hown,hb⟩)
 obtain ⟨ab,cb,rfl,Hw⟩:=dJ hown;have hcb:=Az hown;have hRP:=Lib.hid (vz ab cb body w1 Hw hcb);replace hZ:=hZ.below hb;replace hbt:=below2 hbt hb;have hZw:=hZ.lt;clear hb hown hin Hw HO;go_upto_region 5 with (go_at_call 17;(with_reducible refine hRP.out.mono ?_);rintro x w2 ⟨rfl,hR2,hb2⟩)
 replace hZ:=hZ.below hb2;replace hbt:=below2 hbt hb2;have hRl:=hR2.lt;obtain ⟨R,hRR⟩:∃ R,R=w1.heap.size:=⟨_,rfl⟩;rw [← hRR] at hR2 hZw hRl ⊢;clear hRP hb2 hRR;go_upto_region 6 with (first
  | (go_at_call 18;(with_reducible refine (N1.out _ _ hR2).mono ?_);rintro x w3 ⟨rfl,hR3,hF3⟩;clear hR2)
  | (go_at_call 18;(with_reducible refine (N2.out _ _ hR3).mono ?_);rintro x w4 ⟨rfl,hR4,hF4⟩;clear hR3)
  | (refine aB 28 _ _ _ (snA n1 n2 st0 (.pointer none)) rfl rfl (by kernel_rfl) rfl (by kernel_rfl) ?_))
 have Us:=hF3.again hF4;have hz4:=Us.size;refine au (fun W5 hW5=>?_);have hb5:Below w4.heap.size w4 W5:=by rw [hW5.out];exact (Below.refl _ _).alloc (Nat.le_refl _) _
 have hX:SnBlk W5 w4.heap.size n1 n2 st0 (.pointer none):=by rw [hW5.out];exact heap_alloc_last w4 _
 have hF5:=Us.again (Fr.of_below hb5);have hR5:=hR4.below hb5;have hXl:=hX.lt;obtain ⟨X,hXX⟩:∃ X,X=w4.heap.size:=⟨_,rfl⟩;rw [← hXX] at hX hXl ⊢;have hRX:R<X:=by omega
 replace hZ:=hZ.fr hF5 (by simp only [isR];omega);replace hbt:=hbt.trans (hF5.below (B:=w.heap.size) (by omega) (fun k hk=>by simp only [isR] at hk;omega));clear hW5 hb5 hF3 hF4 Us hR4 N1 N2 hXX hz4 hF5;go_upto_region 7 with (first
  | (go_at_call 19;(with_reducible refine (N3.out _ _ hR5).mono ?_);rintro x w6 ⟨rfl,hR6,hF6⟩;have hX6:=hX.fr hF6 (by simp only [isR];omega))
  | (refine wpList_store_mid rfl 25 _ _ rfl X 2 #[.int .i64 s3.wall,.int .i64 s3.count,.int .i64 s3.dev] rfl rfl hX6.there2 (by kernel_rfl) (by kernel_rfl) ?_))
 refine au (fun W7 hW7=>?_);have hX7:SnBlk W7 X n1 n2 s3 (.pointer none):=by rw [hW7.out];exact hX6.set2 s3
 have hF7:Fr (jq R X) W5 W7:=by rw [hW7.out];exact (qI hF6).setCells (Or.inr (Or.inr rfl)) _ _
 have hR7:RdAt W7 R r3:=by rw [hW7.out];exact hR6.keep (fun k hk=>heap_setCells_other _ _ _ _ _ (fun e=>by have:X=k:=e;omega))
 replace hZ:=hZ.fr hF7 (by simp only [jq];omega);replace hbt:=hbt.trans (hF7.below (B:=w.heap.size) hbt.size (fun k hk=>by simp only [jq] at hk;have:=hbt.size;omega));clear hW7 hX6 hR6 hF6 hF7 hX hR5 N3;go_upto_region 8 with (go_at_call 20;(with_reducible refine (N4.out _ _ hR7).mono ?_);rintro x w8 ⟨rfl,hR8,hF8⟩)
 have hX8:=hX7.fr hF8 (by simp only [isR];omega);replace hZ:=hZ.fr hF8 (by simp only [isR];omega);replace hbt:=hbt.trans (hF8.below (B:=w.heap.size) hbt.size (fun k hk=>by simp only [isR] at hk;have:=hbt.size;omega));have VM:=hX8.lt;have hzw:=hbt.size;have hwX:w.heap.size<X:=by omega
 clear hX7 hR7 hF8 N4 hXl;go_upto_region 9 with (go_at_call 21;(with_reducible refine (N5.out _ _ hR8).mono ?_);rintro x w9 ⟨rfl,rfl⟩)
 by_cases he4:eX r4=0
 case neg =>
  have HC:Hid (ckE 0 r4 r' (gu c K d)=eX r4):=by unfold Hid ckE;rw [if_pos rfl,if_neg he4]
  have HNE:=Lib.hid he4;have q1:(eX r4 == 0)=false:=beq_eq_false_iff_ne.2 he4;have q2:(eX r4 != 0)=true:=by rw [bne_iff_ne];exact he4
  clear he4;go_wp2_with (refine wpList_store_row rfl 28 _ _ rfl w.heap.size (snA 0 0 st0 (.pointer none)) rfl rfl 28 (snA 0 0 st0 (.pointer none)) hZ (by kernel_rfl) rfl (by kernel_rfl) ?_)
  refine dK 2 3 28 28 w.heap.size (snA 0 0 st0 (.pointer none)) _ (.int .i64 (eX r4)) rfl rfl rfl (setRow_heap _ _ _ _ _ _ hZ) underlying28 rfl (by kernel_rfl) rfl ?_
  exact z35
 case pos =>
 have q1:(eX r4 == 0)=true:=beq_iff_eq.2 he4;have q2:(eX r4 != 0)=false:=by rw [bne_eq_false_iff_eq];exact he4
 have HE4:=Lib.hid he4;clear he4 N5 hR8;go_upto_region 11 with fail
 obtain ⟨cc,W',hcv,hbC,Qb,hcC⟩:=Ep w8 t4;have hL0:=KR (some ⟨w8.heap.size,0,none⟩) cc t4 W' (by omega) hcC Qb HC3.out;unfold RetCLZ at hL0;have hX9:=hX8.below hbC;have hZ9:=hZ.below hbC;have hb9:=below2 hbt hbC;have hlo:X<W'.heap.size:=Nat.lt_of_lt_of_le VM hbC.size;clear Qb hcC hX8 hZ hbt VM q1 q2;have hXr:=fun (V:World) (h:Below W'.heap.size W' V)=>hX9.below h;by_cases hr9:eX r'=0
 case neg =>
  have HC:Hid (ckE 0 r4 r' (gu c K d)=eX r'):=by unfold Hid ckE;rw [if_pos rfl,if_pos HE4.out,if_neg hr9]
  simp only [if_neg hr9] at hL0;have hne:=hr9;clear hr9;have HL:Hid (Calls prog 22 #[.slice (some ⟨w8.heap.size,0,none⟩) t4.length cc] W' fun x w'=>x=.returned (.tuple #[.pointer none,.int .i64 (eX r')])∧Below W'.heap.size W' w'):=Lib.hid hL0;have HNE:=Lib.hid hne;have q1:(eX r' == 0)=false:=beq_eq_false_iff_ne.2 hne;have q2:(eX r' != 0)=true:=by rw [bne_iff_ne];exact hne
  clear hL0 hne hXr;go_upto_region 12 with (go_at_call 22;(with_reducible refine HL.out.mono ?_);rintro x w10 ⟨rfl,qW⟩;have xE:=hX9.below qW;have c5:w10.cell? ⟨X,5,none⟩=some (.pointer none):=(by have:=xE.range 5 _ rfl;rwa [Nat.zero_add] at this);have c5f:=xE.free 5)
  refine y47 ?_
  intro W11 tV hZ hbt
  clear tV xE qW hX9 hZ9 hb9 c5 c5f
  go_wp2_with (refine wpList_store_row rfl 28 _ _ rfl w.heap.size (snA 0 0 st0 (.pointer none)) rfl rfl 28 (snA 0 0 st0 (.pointer none)) hZ (by kernel_rfl) rfl (by kernel_rfl) ?_)
  refine dK 2 3 28 28 w.heap.size (snA 0 0 st0 (.pointer none)) _ (.int .i64 (eX r')) rfl rfl rfl (setRow_heap _ _ _ _ _ _ hZ) underlying28 rfl (by kernel_rfl) rfl ?_
  exact z35
 case pos =>
 by_cases hld:gu c K d=0
 case neg =>
  have HC:Hid (ckE 0 r4 r' (gu c K d)=gu c K d):=by unfold Hid ckE;rw [if_pos rfl,if_pos HE4.out,if_pos hr9]
  simp only [if_pos hr9,if_neg hld] at hL0;have hne:=hld;clear hr9 hld;have HL:Hid (Calls prog 22 #[.slice (some ⟨w8.heap.size,0,none⟩) t4.length cc] W' fun x w'=>x=.returned (.tuple #[.pointer none,.int .i64 (gu c K d)])∧Below W'.heap.size W' w'):=Lib.hid hL0;have HNE:=Lib.hid hne;have q1:(gu c K d == 0)=false:=beq_eq_false_iff_ne.2 hne;have q2:(gu c K d != 0)=true:=by rw [bne_iff_ne];exact hne
  clear hL0 hne hXr;go_upto_region 12 with (go_at_call 22;(with_reducible refine HL.out.mono ?_);rintro x w10 ⟨rfl,qW⟩;have xE:=hX9.below qW;have c5:w10.cell? ⟨X,5,none⟩=some (.pointer none):=(by have:=xE.range 5 _ rfl;rwa [Nat.zero_add] at this);have c5f:=xE.free 5)
  refine y47 ?_
  intro W11 tV hZ hbt
  clear tV xE qW hX9 hZ9 hb9 c5 c5f
  go_wp2_with (refine wpList_store_row rfl 28 _ _ rfl w.heap.size (snA 0 0 st0 (.pointer none)) rfl rfl 28 (snA 0 0 st0 (.pointer none)) hZ (by kernel_rfl) rfl (by kernel_rfl) ?_)
  refine dK 2 3 28 28 w.heap.size (snA 0 0 st0 (.pointer none)) _ (.int .i64 (gu c K d)) rfl rfl rfl (setRow_heap _ _ _ _ _ _ hZ) underlying28 rfl (by kernel_rfl) rfl ?_
  exact z35
 case pos =>
 have HC:Hid (ckE 0 r4 r' (gu c K d)=0):=by unfold Hid ckE;rw [if_pos rfl,if_pos HE4.out,if_pos hr9];exact hld
 simp only [if_pos hr9,if_pos hld] at hL0;have HL:=Lib.hid hL0;clear hL0 hr9 hld hXr;go_upto_region 12 with (go_at_call 22;(with_reducible refine HL.out.mono ?_);rintro x w10 ⟨m,bm,t,rfl,hm,hiv,hrel,hdl,hmem,qW,hfo,hlw⟩;have xE:=hX9.below qW;have c5:w10.cell? ⟨X,5,none⟩=some (.pointer none):=(by have:=xE.range 5 _ rfl;rwa [Nat.zero_add] at this);have c5f:=xE.free 5)
 refine au (fun W11 tV=>?_);have hk:∀ q,q≠X→W11.heap[q]?=w10.heap[q]?:=fun q hq=>by rw [tV.out];exact heap_setCell_other _ _ _ _ (fun e=>hq e.symm)
 have VO:SnBlk W11 X n1 n2 s3 (.pointer (some ⟨m,0,none⟩)):=by rw [tV.out];exact xE.set5 _
 have WQ:=hm.cellAt xE hlo hk hfo hlw;have hZ:SnBlk W11 w.heap.size 0 0 st0 (.pointer none):=(hk _ (by omega)).trans (hZ9.below qW);have hbt:Below w.heap.size w W11:=by rw [tV.out];exact (below2 hb9 qW).setCell (by simp only;omega) _
 have hrg:=VO.range;clear tV xE qW hX9 hZ9 hb9 c5 c5f hk VO hm;go_wp2_with (first
  | ((with_reducible refine ah 28 _ X 0 (tN n1 n2 s3 (.pointer (some ⟨m,0,none⟩))) (.agg (snA n1 n2 s3 (.pointer (some ⟨m,0,none⟩)))) rfl _ underlying28 rfl (by kernel_rfl) hrg ?_ rfl ?_);exact rfl)
  | (refine wpList_store_row rfl 28 _ _ rfl w.heap.size (snA n1 n2 s3 (.pointer (some ⟨m,0,none⟩))) rfl rfl 28 (snA 0 0 st0 (.pointer none)) hZ (by kernel_rfl) rfl (by kernel_rfl) ?_))
 refine dK 2 3 28 28 w.heap.size (snA n1 n2 s3 (.pointer (some ⟨m,0,none⟩))) _ (.int .i64 0) rfl rfl rfl (setRow_heap _ _ _ _ _ _ hZ) underlying28 rfl (by kernel_rfl) rfl ?_;rw [HC.out];exact ⟨fun e9=>absurd rfl e9,fun _=>⟨m,bm,t,rfl,WQ.cellAt hZ (by omega) (fun q hq=>aI _ _ _ _ (fun e=>hq e.symm)) hfo hlw,hiv,hrel,hdl,hmem,fun q hq=>by have:=hfo q hq;omega,fun x hx A off h1 h2=>by have:=hlw x hx A off h1 h2;omega⟩,below_setRow hbt (Nat.le_refl _) _⟩
theorem Ew (w:World) (a:Option Addr) (n cap:Nat) (k:IntKind) (i:Nat) (h1:i≤n) :
 (Instr.sliceAt 22 (.slice a n cap) (some (.int k i)) none none).run prog w=.ok (.slice (nZ a cap i 1) (n - i) (cap - i)) w:=by
 obtain ⟨i0,hi,_,hz1,_⟩:=info_parts Tryz.infoByte;exact qx w _ _ i0 a n cap k i 1 underlying22 hi hz1 h1
theorem OL (w:World) (a:Option Addr) (n cap:Nat) (k:IntKind) (j:Nat) (h1:j≤cap) :
 (Instr.sliceAt 22 (.slice a n cap) none (some (.int k j)) none).run prog w=.ok (.slice a j cap) w:=by
 obtain ⟨i0,hi,_,hz1,_⟩:=info_parts Tryz.infoByte;exact uw w _ _ i0 a n cap k j underlying22 hi h1
theorem yL (w:World) (a:Option Addr) (n cap:Nat) (k k2:IntKind) (i j:Nat) (h1:i≤j) (h2:j≤cap) :
 (Instr.sliceAt 22 (.slice a n cap) (some (.int k i)) (some (.int k2 j)) none).run prog w=.ok (.slice (nZ a cap i 1) (j - i) (cap - i)) w:=by
 obtain ⟨i0,hi,_,hz1,_⟩:=info_parts Tryz.infoByte;exact EO w _ _ i0 a n cap k k2 i j 1 underlying22 hi hz1 h1 h2
theorem JF (n:Nat) (w:World) (hn:n≤63):Calls prog 104 #[.int .i64 n] w fun x w'=>x=.returned (.int .u64 (2 ^ n:Nat))∧w=w':=by
 go_enter func104,ntmps104;go_wp2;go_loop [3,4] (fun o i=>∃ k:Nat,k≤n∧o=.int .u64 (2 ^ k:Nat)∧i=.int .i64 k) (fun _ i=>n - (intOf i).toNat)
 case atStart=>exact ⟨0,Nat.zero_le _,rfl,rfl⟩
 case round =>
  obtain ⟨k,hk,rfl,rfl⟩:=hrel;by_cases hlt:k<n
  ·have h1:2 ^ (k+1)≤2 ^ 63:=Nat.pow_le_pow_right (by decide) (by omega)
   obtain ⟨v,hv⟩:∃ v,v=2 ^ k:=⟨_,rfl⟩;have h2:2 ^ (k+1)=v * 2:=by rw [hv,Nat.pow_succ]
   have H2:=Lib.hid h2;rw [h2] at h1;rw [← hv];clear hv h2;go_wp2;go_round
   case rel=>exact ⟨k+1,by omega,by rw [H2.out];go_num,by go_num⟩
   case measure=>simp [intOf];omega
  ·obtain rfl:k=n:=by omega
   exact z137
theorem JS (l:Bytes) (i:Nat) (hi:i<l.length):fF (l.drop i)=l[i].toNat+256 * fF (l.drop (i+1)):=by
 rw [List.drop_eq_getElem_cons hi];rfl
theorem CW (l:Bytes) (i:Nat) (h8:l.length≤8):fF (l.drop i)<18446744073709551616:=by
 have h:=qY (l.drop i);have:256 ^ (l.drop i).length≤256 ^ 8:=Nat.pow_le_pow_right (by decide) (by simp;omega);omega
theorem JG (a:Option Addr) (cap:Nat) (l:Bytes) (w:World) (h8:l.length≤8) (h:BytesIn w a l):Calls prog 57 #[.slice a l.length cap] w fun x w'=>x=.returned (.int .u64 (fF l))∧w=w':=by
 go_enter func57,ntmps57;go_wp2;go_loop [3,4] (fun o i=>∃ k:Nat,k≤l.length∧o=.int .u64 (fF (l.drop k))∧i=.int .i64 ((k:Int) - 1)) (fun _ i=>(intOf i+1).toNat)
 case atStart=>exact ⟨l.length,Nat.le_refl _,by simp [fF],rfl⟩
 case round =>
  obtain ⟨k,hk,rfl,rfl⟩:=hrel;by_cases hlt:0<k
  ·obtain ⟨i,rfl⟩:∃ i,k=i+1:=⟨k - 1,by omega⟩
   have e0:((i+1:Nat):Int) - 1=(i:Int):=by omega
   rcases h with h0 | ⟨A,off,rfl,hb⟩
   ·rw [h0] at hk;simp at hk
   have hc:=hb.cell (show i<l.length by omega);have hd:=JS l i (by omega);have hl:=CW l i h8;rw [hd] at hl;have HD:=Lib.hid hd;have hcl:=l[i].toNat_lt;generalize fF (l.drop (i+1))=v at *;generalize l[i]=c at *;clear hd;rw [e0];go_wp2;go_round
   case rel=>exact ⟨i,by omega,by rw [HD.out];go_num,by go_num⟩
   case measure=>first | (simp [intOf];done) | (simp [intOf];omega)
  ·obtain rfl:k=0:=by omega
   rw [List.drop_zero]
   exact z137
theorem Wi (m k c:Nat) (hk:k≤9) (hm:m<128 ^ k) (h9:k=9→c % 128≤1):m+c % 128 * 128 ^ k<18446744073709551616:=by
 have h1:c % 128≤127:=by omega
 by_cases e:k=9
 ·subst e
  have:=h9 rfl;omega
 ·have h2:128 ^ k≤128 ^ 8:=Nat.pow_le_pow_right (by decide) (by omega)
  have h3:c % 128 * 128 ^ k≤127 * 128 ^ k:=Nat.mul_le_mul_right _ h1;omega
theorem z37 {p : Prop} (h : p := by
 have HE2 : Hid (bP l = (m + p, k + 1, 0)) := by rw [Hid, HE.out, if_pos h1, ← HPp.out]
 clear HE
 go_wp2_with (go_at_call 104; (with_reducible refine (HPW.out _).mono ?_); rintro x w1 ⟨rfl, rfl⟩)
 try rw [Exit.noGoto_ret]
 go_ret3
 exact ⟨by rw [HE2.out]; first | rfl | go_num, rfl⟩) : p := h
theorem z86 {p : Prop} (h : p := by
 have h6 : 128 ^ (k + 1) = 128 ^ k * 128 := Nat.pow_succ ..
 have h3 : c % 128 * q ≤ 127 * q := Nat.mul_le_mul_right _ (by omega)
 have h0 := HM.out
 have h7 := HPp.out
 rw [Hid, h6, HQ.out]; omega) : p := h
theorem z67 {p : Prop} (h : p := by
 clear HE h1
 go_wp2_with (go_at_call 104; (with_reducible refine (HPW.out _).mono ?_); rintro x w1 ⟨rfl, rfl⟩)
 go_round
 case rel => exact ⟨k + 1, m + p, by omega, h8, by go_num, by go_num, hvm.out, HE2.out⟩
 case measure => first | (simp [intOf]; done) | (simp [intOf]; omega)) : p := h
theorem xh (a:Option Addr) (cap:Nat) (l:Bytes) (w:World) (hl:l.length≤1073741824) (h:BytesIn w a l) :
 Calls prog 56 #[.slice a l.length cap] w fun x w'=>x=.returned (.tuple #[.int .u64 (bP l).1,.int .i64 (bP l).2.1,.int .i64 (bP l).2.2])∧w=w':=by
 go_enter func56,ntmps56;go_wp2;go_loop [5,6] (fun n i=>∃ k m:Nat,k≤l.length∧k≤9∧n=.int .u64 m∧i=.int .i64 k∧m<128 ^ k∧bP l=dN k m (l.drop k)) (fun _ i=>l.length - (intOf i).toNat)
 case atStart=>exact ⟨0,0,Nat.zero_le _,by omega,rfl,rfl,by decide,rfl⟩
 case round =>
  obtain ⟨k,m,hk,hk9,rfl,rfl,hm,hpre⟩:=hrel;have HP:=Lib.hid hpre;have HM:=Lib.hid hm;clear hpre hm;by_cases hlt:k<l.length
  ·rcases h with h0 | ⟨A,off,rfl,hb⟩
   ·rw [h0] at hlt;simp at hlt
   have hc:=hb.cell hlt
   refine y35 ?_
   intro HS
   clear HP
   obtain ⟨c,hcc⟩:∃ c,c=l[k]:=⟨_,rfl⟩;rw [← hcc] at hc HS;clear hcc;have hcl:=c.toNat_lt;generalize c.toNat=c at *;by_cases hbad:(0<k∧c=0)∨(k=9∧1<c)
   ·have HE:Hid (bP l=(0,0,1)):=by rw [Hid,HS.out,if_pos hbad]
    clear HS;rcases hbad with ⟨h1,h2⟩ | ⟨h1,h2⟩
    ·have d1:decide (0<k)=true:=decide_eq_true h1
     subst h2;go_wp2
     exact z93
    ·subst h1
     have d2:((c:Int) == 0)=false:=beq_eq_false_iff_ne.2 (by omega);have d3:decide (1<c)=true:=decide_eq_true h2;have d4:decide ((1:Int)<(c:Int))=true:=decide_eq_true (by omega);go_wp2
     exact z93
   ·have HE:=Lib.hid (HS.out.trans (if_neg hbad))
    have h9:k=9→c≤1:=by omega
    have h0:0<k→c≠0:=by omega
    have hlt2:=Wi m k c hk9 HM.out (fun e=>by have:=h9 e;omega);have HPW:=Lib.hid (show ∀ W:World,Calls prog 104 #[.int .i64 (7 * (k:Int))] W fun x w'=>x=.returned (.int .u64 (128 ^ k:Nat))∧W=w' from fun W=>by
     have:=JF (7 * k) W (by omega);rw [Nat.pow_mul] at this;rwa [show ((7 * k:Nat):Int)=7 * (k:Int) by omega] at this)
    obtain ⟨p,hp⟩:∃ p:Nat,p=c % 128 * 128 ^ k:=⟨_,rfl⟩;rw [← hp] at hlt2;have hw:IntKind.u64.wrap ((c:Int) % 128 * ((128 ^ k:Nat):Int))=(p:Int):=by
     have e:((c % 128:Nat):Int)=(c:Int) % 128:=by omega
     rw [← e,← Int.natCast_mul,← hp,IntKind.wrap_u64];omega
    have HPp:=Lib.hid hp;generalize hq:128 ^ k=q at *;have HQ:=Lib.hid hq;clear hq hp HS hbad;by_cases hk0:0<k
    ·have d1:decide (0<k)=true:=decide_eq_true hk0
     have d2:((c:Int) == 0)=false:=beq_eq_false_iff_ne.2 (by have:=h0 hk0;omega);by_cases hk9:k=9
     ·have d3:((k:Int) == 9)=true:=beq_iff_eq.2 (by omega)
      have d4:decide (1<c)=false:=decide_eq_false (by have:=h9 hk9;omega);have d5:decide ((1:Int)<(c:Int))=false:=decide_eq_false (by have:=h9 hk9;omega);have h1:c<128:=by have:=h9 hk9;omega
      have c1:c≤1:=h9 hk9;clear hk9 h9 h0
      exact z37
     ·have d3:((k:Int) == 9)=false:=beq_eq_false_iff_ne.2 (by omega)
      have h8:k+1≤9:=by omega
      clear h9 h0;by_cases h1:c<128
      ·skip
       exact z37
      ·skip
       have HE2:Hid (bP l=dN (k+1) (m+p) (l.drop (k+1))):=by rw [Hid,HE.out,if_neg h1,← HPp.out]
       have h128:128≤c:=by omega
       have hvm:Hid (m+p<128 ^ (k+1)):=by
            exact z86
       exact z67
    ·have d1:decide (0<k)=false:=decide_eq_false hk0
     have d3:((k:Int) == 9)=false:=beq_eq_false_iff_ne.2 (by omega);have h8:k+1≤9:=by omega
     clear h9 h0;by_cases h1:c<128
     ·skip
      exact z37
     ·skip
      have HE2:Hid (bP l=dN (k+1) (m+p) (l.drop (k+1))):=by rw [Hid,HE.out,if_neg h1,← HPp.out]
      have h128:128≤c:=by omega
      have hvm:Hid (m+p<128 ^ (k+1)):=by
       exact z86
      exact z67
  ·obtain rfl:k=l.length:=by omega
   have HE:Hid (bP l=(0,0,2)):=by rw [Hid,HP.out,List.drop_length];rfl
   go_wp2;try rw [Exit.noGoto_ret]
   exact z93
theorem Ak {P:Program} {f:FuncId} {args:Array Value} {w:World} {n:Nat} {v:Value}
 (h:Calls P f args (w.drewN n) fun e w'=>e=.returned v∧w.drewN n=w'):Calls P f args (w.drewN n) fun e w''=>e=.returned v∧∃ m,w''=w.drewN m :=
 h.mono fun _ _ ⟨he,hm⟩=>⟨he,n,hm.symm⟩
theorem z51 {p : Prop} (h : p := by
 clear HV
 rw [HE.out]
 go_enter func23, ntmps23
 go_wp2_with (go_at_call 56; (with_reducible refine HG.out.mono ?_); rintro x w1 ⟨rfl, rfl⟩)
 go_ret3
 exact sG _ _ _ (Below.refl _ _)) : p := h
theorem y21 {p q : Prop} (k : q) (h : PLift q → p := by
 intro kk
 refine wp_region_quiet_lit (by kernel_rfl) (by kernel_rfl) ?_
 iterate 4 go_big_quiet_step (fail)
 refine iy rfl _ (fun W _ => gU _ _ _ _ _ rfl _ (hsl1 W)) ?_
 try simp only [pS]
 go_big_quiet_step (exact Ak (HN.out _ _ _ (HQ.out _)))
 iterate 3 go_big_quiet_step (fail)
 refine iy rfl _ (fun W _ => gU _ _ _ _ _ rfl _ (hsl2 W)) ?_
 try simp only [pS]
 go_big_quiet_step (exact Ak (HC.out _ _ _ (HBI.out _)))
 iterate 2 go_big_quiet_step (fail)
 refine wpQuiet_nil ?_
 exact kk.down) : p := h ⟨k⟩
theorem JJ (a:Option Addr) (cap:Nat) (l:Bytes) (w:World) (hl:l.length≤1073741824) (hcap:l.length≤cap) (h:BytesIn w a l) :
 Calls prog 23 #[.slice a l.length cap] w (I5 (fG l) w):=by
 have hd:=xh a cap l w hl h;have hfit:=kV l;have HV:Hid (fG l=if (bP l).2.2=0 then
  (if 1048576<(bP l).1 then ([],0,3)
  else if l.length<(bP l).2.1+(bP l).1+4 then ([],0,2)
  else if fF ((l.drop ((bP l).2.1+(bP l).1)).take 4)=gX ((l.drop (bP l).2.1).take (bP l).1) then ((l.drop (bP l).2.1).take (bP l).1,(bP l).2.1+(bP l).1+4,0)
  else ([],0,5))
 else ([],0,(bP l).2.2)):=rfl
 obtain ⟨n,k,e,hg⟩:∃ n k e,bP l=(n,k,e):=⟨_,_,_,rfl⟩;rw [hg] at hd hfit HV;simp only at hd hfit HV;clear hg;have HG:=Lib.hid hd;clear hd;rcases hfit with ⟨rfl,hn,hk0,hkl⟩ | ⟨he2,rfl,rfl⟩
 ·replace HV:=Lib.hid (HV.out.trans (if_pos rfl))
  by_cases hbig:1048576<n
  ·have HE:=Lib.hid (HV.out.trans (if_pos hbig))
   exact z51
  ·replace HV:=Lib.hid (HV.out.trans (if_neg hbig))
   by_cases hsh:l.length<k+n+4
   ·have HE:=Lib.hid (HV.out.trans (if_pos hsh))
    have hlt:decide ((l.length:Int)<(k:Int)+(n:Int)+4)=true:=decide_eq_true (by omega);have hlt2:decide (l.length<k+n+4)=true:=decide_eq_true (by omega);have hw:IntKind.i64.wrap (n:Int)=(n:Int):=IntWalk.i64_in _ (by omega)
    exact z51
   ·have hlt:decide ((l.length:Int)<(k:Int)+(n:Int)+4)=false:=decide_eq_false (by omega)
    have hlt2:decide (l.length<k+n+4)=false:=decide_eq_false (by omega);have hw:IntKind.i64.wrap (n:Int)=(n:Int):=IntWalk.i64_in _ (by omega)
    refine y59 ?_
    clear HV
    intro HV hnb TY hBl hQl
    have hBi:=fun (W:World) (h:BytesIn W a l)=>(h.cut hcap k).take n;have hQi:=fun (W:World) (h:BytesIn W a l)=>(h.cut hcap (k+n)).take 4;have hsl1:∀ W,(Instr.sliceAt 22 (.slice a l.length cap) (some (.int .i64 ((k:Int)+(n:Int)))) (some (.int .i64 ((k:Int)+(n:Int)+4))) none).run prog W=.ok (.slice (nZ a cap (k+n) 1) 4 (cap - (k+n))) W:=fun W=>by
     have:=yL W a l.length cap .i64 .i64 (k+n) (k+n+4) (by omega) (by omega);rw [show ((k+n+4:Nat):Int)=(k:Int)+(n:Int)+4 by omega,show ((k+n:Nat):Int)=(k:Int)+(n:Int) by omega,show k+n+4 - (k+n)=4 by omega] at this;exact this
    have hsl2:∀ W,(Instr.sliceAt 22 (.slice a l.length cap) (some (.int .i64 (k:Int))) (some (.int .i64 ((k:Int)+(n:Int)))) none).run prog W=.ok (.slice (nZ a cap k 1) n (cap - k)) W:=fun W=>by
     have:=yL W a l.length cap .i64 .i64 k (k+n) (by omega) (by omega);rw [show ((k+n:Nat):Int)=(k:Int)+(n:Int) by omega,show k+n - k=n by omega] at this;exact this
    have hql:=qY ((l.drop (k+n)).take 4);rw [hQl,show 256 ^ 4=4294967296 by decide] at hql;have hcl:=ny ((l.drop k).take n);have hN:=fun (x:Option Addr) (c:Nat) (W:World) (h:BytesIn W x ((l.drop (k+n)).take 4))=>JG x c ((l.drop (k+n)).take 4) W (by omega) h;have hC:=fun (x:Option Addr) (c:Nat) (W:World) (h:BytesIn W x ((l.drop k).take n))=>Po x c ((l.drop k).take n) W (by omega) h;rw [hQl] at hN;rw [hBl] at hC;generalize (l.drop k).take n=B at *;generalize (l.drop (k+n)).take 4=Q at *;generalize fF Q=q at *;generalize gX B=c at *;have HN:=Lib.hid hN;have HC:=Lib.hid hC;have HB:=Lib.hid hBl;have HQ:=Lib.hid (fun (m:Nat)=>hQi (w.drewN m) (h.kept (below_drewN (Below.refl _ _) m)));have HBI:=Lib.hid (fun (m:Nat)=>hBi (w.drewN m) (h.kept (below_drewN (Below.refl _ _) m)));have hw3:IntKind.i64.wrap ((k:Int)+(n:Int)+4)=(k:Int)+(n:Int)+4:=IntWalk.i64_in _ (by omega);have hwr:IntKind.u64.wrap (c:Int)=(c:Int):=IntWalk.u64_in _ (by omega);clear hN hC hBl hQl hBi hQi hsh hbig;by_cases hqc:q=c
    ·refine y36 ?_
     clear HV hqc
     intro HE hq1 hq2 hq3 hq4
     go_enter func23,ntmps23;go_upto_region 9 with (go_at_call 56;(with_reducible refine HG.out.mono ?_);rintro x w1 ⟨rfl,rfl⟩)
     refine y21 ?_
     intro _ hw'
     obtain ⟨nq,hw''⟩:=hw';subst hw'';have hbd:Below w.heap.size w (w.drewN nq):=below_drewN (Below.refl _ _) nq;have hbi:=HBI.out nq;generalize w.drewN nq=V at hbd hbi ⊢;have hown0:(V.alloc (Obj.cells #[] 5)).ownsRow V.heap.size 5 1 (.slice (some ⟨V.heap.size,0,none⟩) 0 0) ([]:Bytes).length (aX []):=World.ownsRow_made _ _ _ (Nat.le_refl _) (by decide) rfl;have hbA:Below V.heap.size V (V.alloc (Obj.cells #[] 5)):=(Below.refl _ _).alloc (Nat.le_refl _) _;have hsz:=hbd.size;have hle:B.length≤1048576:=by rw [HB.out];exact hnb
     go_wp2_with (first
          | (refine nz rfl _ (gU _ _ _ _ _ rfl _ (hsl2 _)) ?_)
          | (refine tK rfl (.tmp 42) (.tmp 46) rfl rfl V.heap.size _ [] rfl hown0 (nZ a cap k 1) B (cap - k) (by rw [HB.out];rfl) (hbi.kept hbA) (by rw [List.length_nil];omega) (by simp) ?_))
     intro v' w2 hown2 hg2;have hb2:=hbA.grown hg2 (by simp) (fun k hk=>(hown0.lt k hk).1);go_wp2;go_ret3
     exact ⟨_,rfl,jh hown2 hsz,below2 hbd hb2⟩
    ·refine y37 ?_
     clear HV hqc
     intro HE hq1 hq2 hq3 hq4
     go_enter func23,ntmps23;go_upto_region 9 with (go_at_call 56;(with_reducible refine HG.out.mono ?_);rintro x w1 ⟨rfl,rfl⟩)
     refine y21 ?_
     intro _ hw'
     obtain ⟨nq,hw''⟩:=hw';subst hw'';go_wp2;go_ret3
     exact sG _ _ _ (below_drewN (Below.refl _ _) nq)
 ·refine y22 ?_
  intro hne hne2
  have HE:Hid (fG l=([],0,e)):=HV.out.trans (if_neg (by omega))
  exact z51
end Go.Proofs.YtepkclldbkhanaaGreat
