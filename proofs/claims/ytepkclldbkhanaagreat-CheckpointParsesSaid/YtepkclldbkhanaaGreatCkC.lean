/- The reference's snapshot: Parse. Conditions: at most 2^30 bytes. -/
import Derived.Test.YtepkclldbkhanaaGreatRefGet
import Derived.Test.YtepkclldbkhanaaGreatRefLo
set_option linter.unusedSimpArgs false
set_option linter.unusedVariables false
set_option linter.unnecessarySimpa false
set_option maxHeartbeats 16000000
set_option maxRecDepth 100000
open Go.Proofs.Tryz
namespace Go.Proofs.YtepkclldbkhanaaGreat
open Go.RowKit
abbrev rkA (d i:Int) (s:Stamp) (y:RMIt):Array Value:=#[.int .i64 d,.int .i64 i,.int .i64 s.wall,.int .i64 s.count,.int .i64 s.dev,.slice y.ac y.ctx.length y.cc,.slice y.aK y.K.length y.cK,.slice y.ad y.dead.length y.cd]
abbrev rkZ:Array Value:=#[.int .i64 0,.int .i64 0,.int .i64 0,.int .i64 0,.int .i64 0,.slice none 0 0,.slice none 0 0,.slice none 0 0]
def RkZ (w:World) (X:Nat):Prop:=w.heap[X]?=some (.cells rkZ 38 (0,0))
theorem RkZ.lt {w:World} {X:Nat} (h:RkZ w X):X<w.heap.size:=lt_of_block h
theorem RkZ.below {w w':World} {X:Nat} (h:RkZ w X) (hb:Below w.heap.size w w'):RkZ w' X:=(hb.block _ h.lt).trans h
/-- behind the reference's Parse -/
def UF (e:Int) (dev inc:Nat) (st:Stamp) (c:List Dot) (K:List Ev) (d:List Dot) (w:World) (x:Ending) (w':World):Prop :=
 (e≠0→x=.returned (.tuple #[.agg rkZ,.int .i64 e])) ∧
 (e=0→∃ y,x=.returned (.tuple #[.agg (rkA dev inc st y),.int .i64 0])∧RMIn w' y∧y.rm=⟨c,K,d⟩∧fA y.K)∧Below w.heap.size w w'
theorem z75 {p : Prop} (h : p := by
 go_wp2_with (refine wpList_store_row rfl 38 _ _ rfl w.heap.size rkZ rfl rfl 38 rkZ hZ (by kernel_rfl) rfl (by kernel_rfl) ?_)
 refine dK 2 3 38 38 w.heap.size rkZ _ (.int .i64 1) rfl rfl rfl (setRow_heap _ _ _ _ _ _ hZ) underlying38 rfl (by kernel_rfl) rfl ?_
 exact z35) : p := h
theorem ER (a:Option Addr) (cap:Nat) (l:Bytes) (w:World) (hl:l.length≤1073741824) (hcap:l.length≤cap) (h:BytesIn w a l) {body full:Bytes} {e0:Int} (h1:nV l=(body,e0)) {r r':Rd} {dev inc:Nat} {st:Stamp} (h2:ou body=(r,dev,inc,st,full)) {c:List Dot} {K:List Ev} {d:List Dot} (h3:jL full=(r',c,K,d)) :
 Calls prog 6 #[.slice a l.length cap] w (UF (ckE e0 r r' (gu c K d)) dev inc st c K d w):=by
 have HF:Hid (nV l=if (fG l).2.2=0 then (if (fG l).2.1<l.length then ([],1) else ((fG l).1,0)) else ([],(fG l).2.2)):=rfl;have HG0:=fun (W:World) (h:BytesIn W a l)=>JJ a cap l W hl hcap h;have hfr:=sU l;obtain ⟨b,n,e,hx⟩:∃ b n e,fG l=(b,n,e):=⟨_,_,_,rfl⟩;rw [hx] at HG0 HF hfr;unfold I5 at HG0;simp only at HG0 HF hfr;have HG:=Lib.hid HG0;clear HG0 hx;by_cases he:e=0
 case neg =>
  have hee:e0=e:=by have:=HF.out;rw [h1,if_neg he] at this;exact congrArg Prod.snd this
  subst hee;have HC:Hid (ckE e0 r r' (gu c K d)=e0):=by unfold Hid ckE;rw [if_neg he]
  have HNE:=Lib.hid he;have q1:(e0 == 0)=false:=beq_eq_false_iff_ne.2 he;have q2:(e0 != 0)=true:=by rw [bne_iff_ne];exact he
  clear he HF hfr h1;go_enter func6,ntmps6;go_upto_region 1 with fail
  refine au (fun W hW=>?_);have hbt:Below w.heap.size w W:=by rw [hW.out];exact (Below.refl _ _).alloc (Nat.le_refl _) _
  have hZ:RkZ W w.heap.size:=by rw [hW.out];exact heap_alloc_last w _
  have hin:=h.kept hbt;clear hW h;go_upto_region 3 with (go_at_call 23;(with_reducible refine (HG.out _ hin).mono ?_);rintro x w0 ⟨v,rfl,hown,hb⟩)
  replace hZ:=hZ.below hb;replace hbt:=below2 hbt hb;clear hb hown hin;go_wp2_with (refine wpList_store_row rfl 38 _ _ rfl w.heap.size rkZ rfl rfl 38 rkZ hZ (by kernel_rfl) rfl (by kernel_rfl) ?_)
  refine dK 2 3 38 38 w.heap.size rkZ _ (.int .i64 e0) rfl rfl rfl (setRow_heap _ _ _ _ _ _ hZ) underlying38 rfl (by kernel_rfl) rfl ?_
  exact z35
 case pos =>
 subst he;by_cases hn:n<l.length
 case pos =>
  have hee:e0=1:=by have:=HF.out;rw [h1,if_pos rfl,if_pos hn] at this;exact congrArg Prod.snd this
  subst hee;have HC:Hid (ckE 1 r r' (gu c K d)=1):=by unfold Hid ckE;rw [if_neg (by decide)]
  have HNE:Hid ((1:Int)≠0):=Lib.hid (by decide);have d1:=decide_eq_true hn;have d2:decide ((n:Int)<(l.length:Int))=true:=decide_eq_true (by omega);clear HF hfr h1 hn;go_enter func6,ntmps6;go_upto_region 1 with fail
  refine au (fun W hW=>?_);have hbt:Below w.heap.size w W:=by rw [hW.out];exact (Below.refl _ _).alloc (Nat.le_refl _) _
  have hZ:RkZ W w.heap.size:=by rw [hW.out];exact heap_alloc_last w _
  have hin:=h.kept hbt;clear hW h;go_upto_region 5 with (go_at_call 23;(with_reducible refine (HG.out _ hin).mono ?_);rintro x w0 ⟨v,rfl,hown,hb⟩)
  replace hZ:=hZ.below hb;replace hbt:=below2 hbt hb;clear hb hown hin
  exact z75
 case neg =>
 have hbe:b=body∧(0:Int)=e0:=by have:=HF.out;rw [h1,if_pos rfl,if_neg hn] at this;exact ⟨(congrArg Prod.fst this).symm,(congrArg Prod.snd this).symm⟩
 obtain ⟨rfl,rfl⟩:=hbe;have hbl:b.length≤1048576:=by
  rcases hfr with ⟨-,-,-,h6,-⟩ | ⟨h6,-⟩
  ·exact h6
  ·exact absurd rfl h6
 have d1:=decide_eq_false hn;have d2:decide ((n:Int)<(l.length:Int))=false:=decide_eq_false (by omega);clear HF hfr h1 hn;have f1:=bf 63 ⟨b,0⟩;obtain ⟨r1,n1,g1⟩:∃ x y,bg 63 ⟨b,0⟩=(x,y):=⟨_,_,rfl⟩;have f2:=bf 1048576 r1;obtain ⟨r2,n2,g2⟩:∃ x y,bg 1048576 r1=(x,y):=⟨_,_,rfl⟩;have f3:=nJ r2;obtain ⟨r3,s3,g3⟩:∃ x y,dZ r2=(x,y):=⟨_,_,rfl⟩;have f4:=bV 1048576 r3;obtain ⟨r4,t4,g4⟩:∃ x y,aN 1048576 r3=(x,y):=⟨_,_,rfl⟩;rw [g1] at f1;rw [g2] at f2;rw [g3] at f3;rw [g4] at f4;simp only at f1 f2 f3 f4;have hxx:ou b=(r4,n1,n2,s3,t4):=by unfold ou;simp only [g1,g2,g3,g4]
 rw [hxx] at h2;simp only [Prod.mk.injEq] at h2;obtain ⟨rfl,rfl,rfl,rfl,rfl⟩:=h2;have G1:Hid (∀ (w0 W:World) (a:Option Addr) (cap:Nat),Below w0.heap.size w0 W→b.length≤cap→BytesIn w0 a b→Calls prog 24 #[.agg #[.slice a b.length cap,.int .i64 0],.int .u64 63] W (iI r1 (.int .u64 n1) w0 W)):=fun w0 W a cap h hc hb=>by have:=di ⟨b,0⟩ a cap 63 w0 W h (by simp only;omega) hc (by omega) hb;rw [g1] at this;exact this
 have G2:Hid (∀ (w0 W:World) (a:Option Addr) (cap:Nat),Below w0.heap.size w0 W→r1.b.length≤cap→BytesIn w0 a r1.b→Calls prog 24 #[bn r1 a cap,.int .u64 1048576] W (iI r2 (.int .u64 n2) w0 W)):=fun w0 W a cap h hc hb=>by have:=di r1 a cap 1048576 w0 W h (by omega) hc (by omega) hb;rw [g2] at this;exact this
 have G3:Hid (∀ (w0 W:World) (a:Option Addr) (cap:Nat),Below w0.heap.size w0 W→r2.b.length≤cap→BytesIn w0 a r2.b→Calls prog 25 #[bn r2 a cap] W (iI r3 (iO s3) w0 W)):=fun w0 W a cap h hc hb=>by have:=uh r2 a cap w0 W h (by omega) hc hb;rw [g3] at this;exact this
 have G4:Hid (∀ (w0 W:World) (a:Option Addr) (cap:Nat),Below w0.heap.size w0 W→r3.b.length≤cap→BytesIn w0 a r3.b→Calls prog 26 #[bn r3 a cap,.int .i64 1048576] W (iI r4 (.string (mkS t4)) w0 W)):=fun w0 W a cap h hc hb=>by have:=jT r3 a cap 1048576 w0 W h (by omega) hc (by omega) (by omega) hb;rw [g4] at this;exact this
 have b1:=f1.2;have b2:=f2.2;have b4:=f4.2;clear g1 g2 g3 g4 f1 f2 f3 f4 hxx;have HC3:=Lib.hid h3;clear h3;go_enter func6,ntmps6;go_upto_region 1 with fail
 refine au (fun W hW=>?_);have hbt:Below w.heap.size w W:=by rw [hW.out];exact (Below.refl _ _).alloc (Nat.le_refl _) _
 have hZ:RkZ W w.heap.size:=by rw [hW.out];exact heap_alloc_last w _
 have hin:=h.kept hbt;clear hW h;go_upto_region 6 with (go_at_call 23;(with_reducible refine (HG.out _ hin).mono ?_);rintro x w0 ⟨v,rfl,hown,hb⟩)
 obtain ⟨ab,cb,rfl,Hw⟩:=dJ hown;have hcb:=Az hown;replace hZ:=hZ.below hb;replace hbt:=below2 hbt hb;have hlw:=hZ.lt;have h0W:Below w0.heap.size w0 w0:=Below.refl _ _;clear hb hown hin HG;have G1':=Lib.hid (fun W h=>G1.out w0 W ab cb h hcb Hw);go_upto_region 7 with (first
  | (go_at_call 24;(with_reducible refine (G1'.out _ h0W).mono ?_);rintro x w1 ⟨a1,c1,rfl,hin1,hc1,hb1⟩)
  | (refine aB 66 _ _ _ #[.slice a1 r1.b.length c1,.int .i64 r1.e] rfl rfl (by kernel_rfl) rfl (by kernel_rfl) ?_))
 refine au (fun V1 hV=>?_);have hX1:RdBlk V1 w1.heap.size r1 a1 c1:=by rw [hV.out];exact RdBlk.new w1 r1 a1 c1
 have hbv:Below w0.heap.size w0 V1:=by rw [hV.out];exact hb1.alloc hb1.size _
 replace h0W:=h0W.trans (hbv.mono h0W.size);replace hlw:=Nat.lt_of_lt_of_le hlw hbv.size;clear hV hb1 G1 G1';have hrg:=hX1.range;replace hZ:=hZ.below hbv;replace hbt:=below2 hbt hbv;clear hbv;obtain ⟨W,hWe⟩:∃ W,W=V1:=⟨_,rfl⟩;subst hWe;have G2':=Lib.hid (fun W h=>G2.out w0 W a1 c1 h hc1 hin1);go_upto_region 8 with (first
  | ((with_reducible refine ah 66 _ w1.heap.size 0 [.slice a1 r1.b.length c1,.int .i64 r1.e] (bn r1 a1 c1) rfl _ underlying66 rfl (by kernel_rfl) hrg ?_ rfl ?_);exact rfl)
  | (go_at_call 24;(with_reducible refine (G2'.out _ h0W).mono ?_);rintro x w2 ⟨a2,c2,rfl,hin2,hc2,hb2⟩)
  | (refine aB 66 _ _ _ #[.slice a2 r2.b.length c2,.int .i64 r2.e] rfl rfl (by kernel_rfl) rfl (by kernel_rfl) ?_))
 refine au (fun V2 hV=>?_);have hX2:RdBlk V2 w2.heap.size r2 a2 c2:=by rw [hV.out];exact RdBlk.new w2 r2 a2 c2
 have hbv:Below W.heap.size W V2:=by rw [hV.out];exact hb2.alloc hb2.size _
 replace h0W:=h0W.trans (hbv.mono h0W.size);have hlo2:=Nat.lt_of_lt_of_le hlw hb2.size;replace hlw:=Nat.lt_of_lt_of_le hlw hbv.size;clear hV hb2 hrg;have hrg:=hX2.range;replace hZ:=hZ.below hbv;replace hbt:=below2 hbt hbv;clear hbv;obtain ⟨W,hWe⟩:∃ W,W=V2:=⟨_,rfl⟩;subst hWe;have G3':=Lib.hid (fun W h=>G3.out w0 W a2 c2 h hc2 hin2);go_upto_region 9 with (first
  | ((with_reducible refine ah 66 _ w2.heap.size 0 [.slice a2 r2.b.length c2,.int .i64 r2.e] (bn r2 a2 c2) rfl _ underlying66 rfl (by kernel_rfl) hrg ?_ rfl ?_);exact rfl)
  | (go_at_call 25;(with_reducible refine (G3'.out _ h0W).mono ?_);rintro x w3 ⟨a3,c3,rfl,oG,hc3,hb3⟩)
  | (refine dI 66 _ _ _ #[.slice a3 r3.b.length c3,.int .i64 r3.e] _ rfl rfl (by kernel_rfl) rfl (by kernel_rfl) ?_)
  | (refine cu 25 _ _ _ #[.int .i64 s3.wall,.int .i64 s3.count,.int .i64 s3.dev] (w3.heap.size+1) (by simp) rfl rfl (by kernel_rfl) rfl (by kernel_rfl) ?_))
 refine au (fun V3 hV=>?_);have hX3:RdBlk V3 w3.heap.size r3 a3 c3:=by rw [hV.out];exact RdBlk.new2 w3 r3 a3 c3 _
 have hS3:StBlk V3 (w3.heap.size+1) #[.int .i64 s3.wall,.int .i64 s3.count,.int .i64 s3.dev] 25:=by rw [hV.out];exact StBlk.new2 w3 _ _ _
 have hbv:Below W.heap.size W V3:=by rw [hV.out];exact (hb3.alloc hb3.size _).alloc (Nat.le_trans hb3.size (by simp)) _
 replace h0W:=h0W.trans (hbv.mono h0W.size);have hlo3:=Nat.lt_of_lt_of_le hlw hb3.size;replace hlw:=Nat.lt_of_lt_of_le hlw hbv.size;clear hV hb3 hrg;have hrg:=hX3.range;replace hZ:=hZ.below hbv;replace hbt:=below2 hbt hbv;clear hbv;obtain ⟨W,hWe⟩:∃ W,W=V3:=⟨_,rfl⟩;subst hWe;have G4':=Lib.hid (fun W h=>G4.out w0 W a3 c3 h hc3 oG);go_upto_region 10 with (first
  | ((with_reducible refine ah 66 _ w3.heap.size 0 [.slice a3 r3.b.length c3,.int .i64 r3.e] (bn r3 a3 c3) rfl _ underlying66 rfl (by kernel_rfl) hrg ?_ rfl ?_);exact rfl)
  | (go_at_call 26;(with_reducible refine (G4'.out _ h0W).mono ?_);rintro x w4 ⟨a4,c4,rfl,Dh,hc4,hb4⟩)
  | (refine aB 66 _ _ _ #[.slice a4 r4.b.length c4,.int .i64 r4.e] rfl rfl (by kernel_rfl) rfl (by kernel_rfl) ?_))
 refine au (fun V4 hV=>?_);have hX4:RdBlk V4 w4.heap.size r4 a4 c4:=by rw [hV.out];exact RdBlk.new w4 r4 a4 c4
 have hbv:Below W.heap.size W V4:=by rw [hV.out];exact hb4.alloc hb4.size _
 replace h0W:=h0W.trans (hbv.mono h0W.size);have TW:=Nat.lt_of_lt_of_le hlw hb4.size;replace hlw:=Nat.lt_of_lt_of_le hlw hbv.size;clear hV hb4 hrg;have hrg:=hX4.range;replace hZ:=hZ.below hbv;replace hS3:=hS3.below hbv;replace hbt:=below2 hbt hbv;clear hbv;obtain ⟨W,hWe⟩:∃ W,W=V4:=⟨_,rfl⟩;subst hWe;clear G2 G3 G4 G2' G3' G4' hX1 hX2 hX3 hrg;obtain ⟨p0,p1,pf0,pf1⟩:=hX4.two;have XV:=hX4.lt;by_cases he4:r4.e=0
 case neg =>
  have hre:eX r4=r4.e:=by unfold eX;rw [if_neg he4]
  have HC:Hid (ckE 0 r4 r' (gu c K d)=r4.e):=by unfold Hid ckE;rw [if_pos rfl,hre,if_neg he4]
  have HNE:=Lib.hid he4;have q1:(r4.e == 0)=false:=beq_eq_false_iff_ne.2 he4;have q2:(r4.e != 0)=true:=by rw [bne_iff_ne];exact he4
  clear he4 hre;go_upto_region 11 with fail
  refine wp_region_noPanic ?_;refine wp_region_held_drew (S:=fun W'=>W'.cell? ⟨w4.heap.size,1,none⟩=some (.int .i64 r4.e)) (by kernel_rfl) p1 (fun hHeld=>?_);refine tH 0 56 rfl (Or.inl ⟨by rfl,fun W hSW=>yD _ _ rfl rkZ (by kernel_rfl)⟩) ?_;try simp only [pS]
  refine tH (v:=?_) 1 57 rfl (Or.inl ⟨by rfl,?_⟩) ?_
  case refine_2 => exact z20
  try simp only [pS]
  refine tH (v:=?_) 2 58 rfl (Or.inl ⟨by rfl,?_⟩) ?_
  case refine_2 => exact z20
  try simp only [pS]
  refine wpAnyH_ready (rs:=[3]) (by kernel_rfl) (by simp) ?_;refine AllReadyH.cons rfl (fun K hK=>?_) AllReadyH.nil;refine dY rfl 38 _ _ rfl w.heap.size rkZ rfl rfl 38 rkZ hZ (by kernel_rfl) rfl (by kernel_rfl) ?_;refine hK.out _ _ ?_ (fun hHeld=>?_)
  ·exact ((World.cell?_of_block (aI _ _ _ _ (by simp only;omega))).trans p1)
  clear hK K;try simp only [pS]
  refine tH (v:=?_) 4 3 rfl (Or.inl ⟨by rfl,?_⟩) ?_
  case refine_2 => exact z20
  refine y54 ?_
  go_wp2;refine dK 2 3 38 38 w.heap.size rkZ _ (.int .i64 r4.e) rfl rfl rfl (setRow_heap W.drew _ _ _ _ _ hZ) underlying38 rfl (by kernel_rfl) rfl ?_;rw [HC.out];exact ⟨fun _=>rfl,fun e9=>absurd e9 HNE.out,below_setRow hbt.drew (Nat.le_refl _) _⟩
 case pos =>
 have q1:(r4.e == 0)=true:=beq_iff_eq.2 he4;have q2:(r4.e != 0)=false:=by rw [bne_eq_false_iff_eq];exact he4
 by_cases hlen:0<r4.b.length
 case pos =>
  have hre:eX r4=1:=by unfold eX;rw [if_pos he4,if_pos hlen]
  have HC:Hid (ckE 0 r4 r' (gu c K d)=1):=by unfold Hid ckE;rw [if_pos rfl,hre,if_neg (by decide)]
  have HNE:Hid ((1:Int)≠0):=Lib.hid (by decide);have e1:=decide_eq_true hlen;have e2:decide ((0:Int)<(r4.b.length:Int))=true:=decide_eq_true (by omega);clear he4 hre hlen
  exact z75
 case neg =>
 have hre:eX r4=0:=by unfold eX;rw [if_pos he4,if_neg hlen]
 have HRE:=Lib.hid hre;have e1:=decide_eq_false hlen;have e2:decide ((0:Int)<(r4.b.length:Int))=false:=decide_eq_false (by omega);clear he4 hre hlen;go_upto_region 14 with fail
 clear p0 p1 pf0 pf1 q1 q2 e1 e2 hX4;obtain ⟨cc,W',hcv,hbC,Qb,hcC⟩:=Ep W t4;have hL0:=CU (some ⟨W.heap.size,0,none⟩) cc t4 W' (by omega) hcC Qb HC3.out;unfold QH at hL0;have hZ9:=hZ.below hbC;have hS9:=hS3.below hbC;have hb9:=below2 hbt hbC;have hlo:w.heap.size<W'.heap.size:=Nat.lt_of_lt_of_le hlw hbC.size;clear Qb hcC hZ hbt hlw hlo2 hlo3 TW;obtain ⟨el,hel⟩:∃ el,el=(if eX r'=0 then gu c K d else eX r'):=⟨_,rfl⟩;rw [← hel] at hL0;have HC:Hid (ckE 0 r4 r' (gu c K d)=el):=by
  unfold Hid ckE;rw [if_pos rfl,if_pos HRE.out,hel]
 have HL:=Lib.hid hL0;clear hL0 hel HC3;go_upto_region 15 with (first
  | (go_at_call 27;(with_reducible refine HL.out.mono ?_);rintro x w10 ⟨y,e,rfl,rfl,hI,hsm,qW,hyes,hlow⟩)
  | (refine aB 36 _ _ _ (Gs y) rfl rfl (by kernel_rfl) rfl (by kernel_rfl) ?_))
 refine au (fun W11 tV=>?_);have hbv:Below w10.heap.size w10 W11:=by rw [tV.out];exact (Below.refl _ _).alloc (Nat.le_refl _) _
 have hM:W11.rangeAt w10.heap.size 0 [.slice y.ac y.ctx.length y.cc,.slice y.aK y.K.length y.cK,.slice y.ad y.dead.length y.cd]:=by
  rw [tV.out];intro j u hu;rw [Nat.zero_add,World.cell?_alloc_new];exact (by simpa [Gs] using hu)
 have RH:=below2 qW hbv;have hZ:=hZ9.below RH;have hS:=(hS9.below RH).range;have Xl:=hI.keep hbv;have hbt:=below2 hb9 RH;clear tV qW hbv RH hZ9 hS9 hI hb9;by_cases he9:e=0
 case neg =>
  have HNE:=Lib.hid he9;have q1:(e == 0)=false:=beq_eq_false_iff_ne.2 he9;have q2:(e != 0)=true:=by rw [bne_iff_ne];exact he9
  clear he9;go_wp2_with (refine wpList_store_row rfl 38 _ _ rfl w.heap.size rkZ rfl rfl 38 rkZ hZ (by kernel_rfl) rfl (by kernel_rfl) ?_)
  refine dK 2 3 38 38 w.heap.size rkZ _ (.int .i64 e) rfl rfl rfl (setRow_heap _ _ _ _ _ _ hZ) underlying38 rfl (by kernel_rfl) rfl ?_
  exact z35
 case pos =>
 have q1:(e == 0)=true:=beq_iff_eq.2 he9;have q2:(e != 0)=false:=by rw [bne_eq_false_iff_eq];exact he9
 have HY:=Lib.hid (hyes he9);have HC0:Hid (ckE 0 r4 r' (gu c K d)=0):=Lib.hid (HC.out.trans he9);clear he9 HC hyes;go_wp2_with (first
  | ((with_reducible refine ah 25 _ (w3.heap.size+1) 0 [.int .i64 s3.wall,.int .i64 s3.count,.int .i64 s3.dev] (iO s3) rfl _ underlying25 rfl (by kernel_rfl) hS ?_ rfl ?_);exact rfl)
  | ((with_reducible refine ah 36 _ w10.heap.size 0 [.slice y.ac y.ctx.length y.cc,.slice y.aK y.K.length y.cK,.slice y.ad y.dead.length y.cd] (qV y) rfl _ underlying36 rfl (by kernel_rfl) hM ?_ rfl ?_);exact rfl)
  | (refine Great.wpList_buildTo rfl 38 _ rfl _ rfl (rkA n1 n2 s3 y) (by kernel_rfl) ?_)
  | (refine wpList_store_row rfl 38 _ _ rfl w.heap.size (rkA n1 n2 s3 y) rfl rfl 38 rkZ hZ (by kernel_rfl) rfl (by kernel_rfl) ?_))
 refine dK 2 3 38 38 w.heap.size (rkA n1 n2 s3 y) _ (.int .i64 0) rfl rfl rfl (setRow_heap _ _ _ _ _ _ hZ) underlying38 rfl (by kernel_rfl) rfl ?_;rw [HC0.out];refine ⟨fun e9=>absurd rfl e9,fun _=>⟨y,rfl,Xl.cellAt hlow hlo (fun q hq=>aI _ _ _ _ (fun e=>hq e.symm)),?_,hsm⟩,below_setRow hbt (Nat.le_refl _) _⟩;obtain ⟨g1,g2,g3⟩:=HY.out;unfold RMIt.rm;rw [g1,g2,g3]
end Go.Proofs.YtepkclldbkhanaaGreat
