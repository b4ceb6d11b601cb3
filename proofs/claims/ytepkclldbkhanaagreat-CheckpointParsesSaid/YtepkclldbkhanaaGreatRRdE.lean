/- The references' reader by value: marks. Conditions: at most 2^30 bytes. -/
import Derived.Test.YtepkclldbkhanaaGreatRRd
import Derived.Test.YtepkclldbkhanaaGreatVGet
set_option linter.unusedSimpArgs false
set_option linter.unusedVariables false
set_option linter.unnecessarySimpa false
set_option maxHeartbeats 16000000
set_option maxRecDepth 100000
open Go.Proofs.Tryz
namespace Go.Proofs.YtepkclldbkhanaaGreat
open Go.RowKit
theorem Aw {w:World} {base size:Nat} {t:TypeId} {a:Option Addr} {n cap:Nat} {xs:List Value} (h:w.ownsRow base t size (.slice a n cap) n xs):n≤cap:=by
 exact z114
/-- behind the read of marks -/
def CE (r:Rd) (w0 w:World) (x:Ending) (w':World):Prop :=
 ∃ a cap ao co,x=.returned (.tuple #[bn (fC r).1 a cap,.slice ao (fC r).2.length co])∧BytesIn w0 a (fC r).1.b∧(fC r).1.b.length≤cap∧DotsIn w' ao (fC r).2∧Below w.heap.size w w'∧(∀ A off,ao=some ⟨A,off,none⟩→w.heap.size≤A)∧(fC r).2.length≤co
theorem RdBlk.fr {w w':World} {S:Nat→Prop} {R:Nat} {r:Rd} {a:Option Addr} {cap:Nat} (h:RdBlk w R r a cap) (hf:Fr S w w') (hs:¬ S R):RdBlk w' R r a cap:=(hf.block _ h.lt hs).trans h
theorem QV (w:World) (o:Obj) (cs:Array Value) (t:TypeId):((w.alloc o).alloc (.cells cs t)).heap[w.heap.size+1]?=some (.cells cs t (0,0)):=by
 exact z159
theorem z28 {p : Prop} (h : p := by
 obtain ⟨p0, p1, zf0, zf1⟩ := hX.two
 have hrg := hX.range
 go_wp2_with (first
  | ((with_reducible refine ah 66 _ w1.heap.size 0 [.slice ar rr.b.length cr, .int .i64 rr.e] (bn rr ar cr) rfl _ underlying66 rfl (by kernel_rfl) hrg ?_ rfl ?_); exact rfl)
  | (refine wpList_store_row rfl 66 _ _ rfl (w.heap.size + 1) #[.slice ar rr.b.length cr, .int .i64 rr.e] rfl rfl 66 bQ hZ (by kernel_rfl) rfl (by kernel_rfl) ?_)
  )
 refine bI 2 3 66 66 (w.heap.size + 1) #[.slice ar rr.b.length cr, .int .i64 rr.e] _ (.slice none 0 0) rfl rfl rfl (setRow_heap _ _ _ _ _ _ hZ) underlying66 rfl (by kernel_rfl) rfl ?_
 unfold CE
 rw [HQ3.out]
 exact ⟨ar, cr, none, 0, rfl, hinr, hcr, Or.inl rfl, below_setRow hbt (by omega) _, (fun A off h => by cases h), Nat.le_refl _⟩) : p := h
theorem Ac (r:Rd) (a:Option Addr) (cap:Nat) (w0 w:World) (h0:Below w0.heap.size w0 w) (hl:r.b.length≤1073741824) (hc:r.b.length≤cap) (hby:BytesIn w0 a r.b) :
 Calls prog 60 #[bn r a cap] w (CE r w0 w):=by
 obtain ⟨i0,hi,hz0,hz1,hz2⟩:=info_parts Tryz.infoMark;have hfit:=bf 4096 r;have HV:Hid (fC r=je (bT (bg 4096 r).2 (bg 4096 r).1)):=rfl;obtain ⟨x,N,hx⟩:∃ x N,bg 4096 r=(x,N):=⟨_,_,rfl⟩;have g1:Hid (∀ W,Below w0.heap.size w0 W→Calls prog 24 #[bn r a cap,.int .u64 4096] W (iI x (.int .u64 N) w0 W)):=fun W h=>by have:=di r a cap 4096 w0 W h hl hc (by omega) hby;rw [hx] at this;exact this
 rw [hx] at hfit HV;simp only at hfit HV;obtain ⟨hxl,hN⟩:=hfit;have hw0:=h0.size;clear hx;go_enter func60,ntmps60;go_upto_region 1 with fail
 refine au (fun W hW=>?_);have hbt:Below w.heap.size w W:=by rw [hW.out];go_grown
 have hB:RdBlk W w.heap.size r a cap:=by
  exact z17
 have hZ:W.heap[w.heap.size+1]?=some (.cells bQ 66 (0,0)):=by
  rw [hW.out];exact QV w _ _ _
 have h0W:=h0.trans (hbt.mono h0.size);have hrg:=hB.range;have hlw:=lt_of_block hZ;clear hW hB;go_upto_region 2 with (first
  | ((with_reducible refine ah 66 _ w.heap.size 0 [.slice a r.b.length cap,.int .i64 r.e] (bn r a cap) rfl _ underlying66 rfl (by kernel_rfl) hrg ?_ rfl ?_);exact rfl)
  | (go_at_call 24;(with_reducible refine (g1.out _ h0W).mono ?_);rintro x w1 ⟨a1,c1,rfl,hin1,hc1,hb1⟩)
  | (refine aB 66 _ _ _ #[.slice a1 x.b.length c1,.int .i64 x.e] rfl rfl (by kernel_rfl) rfl (by kernel_rfl) ?_))
 refine au (fun V1 hV=>?_);have hX1:RdBlk V1 w1.heap.size x a1 c1:=by rw [hV.out];exact RdBlk.new w1 x a1 c1
 have hbv:Below W.heap.size W V1:=by rw [hV.out];exact hb1.alloc hb1.size _
 replace h0W:=h0W.trans (hbv.mono h0W.size);have hlo1:=Nat.lt_of_lt_of_le hlw hb1.size;replace hlw:=Nat.lt_of_lt_of_le hlw hbv.size;clear hV hb1 hrg;have hrg:=hX1.range;replace hZ:=(hbv.block _ (lt_of_block hZ)).trans hZ;replace hbt:=below2 hbt hbv;clear hbv;obtain ⟨W,hWe⟩:∃ W,W=V1:=⟨_,rfl⟩;subst hWe;have hXl:=hX1.lt;have hwW:=hbt.size;have Ht:(W.alloc (Obj.cells #[] 174)).ownsRow W.heap.size 174 3 (.slice (some ⟨W.heap.size,0,none⟩) 0 0) 0 (aY []):=World.ownsRow_made _ _ _ (Nat.le_refl _) (by decide) rfl;have hFm:Fr (isR w1.heap.size) W (W.alloc (Obj.cells #[] 174)):=Fr.of_below ((Below.refl _ _).alloc (Nat.le_refl _) _);have hXm:=hX1.below ((Below.refl _ _).alloc (Nat.le_refl _) (Obj.cells #[] 174));clear g1 hrg;go_upto_region 3 with fail
 go_wp2;go_loopw [6,7] (fun out i wr=>∃ (j m:Nat) (ls:List Dot) (rr:Rd) (ar:Option Addr) (cr:Nat),i=.int .u64 j∧j+m=N∧m+ls.length≤4096∧rr.b.length≤1073741824∧RdBlk wr w1.heap.size rr ar cr∧BytesIn w0 ar rr.b∧rr.b.length≤cr∧wr.ownsRow W.heap.size 174 3 out ls.length (aY ls)∧Fr (isR w1.heap.size) W wr∧bT N x=((bT m rr).1,ls++(bT m rr).2)) (fun _ i _=>N - (intOf i).toNat)
 case atStart=>exact ⟨0,N,[],x,a1,c1,rfl,by omega,by simp;omega,by omega,hXm,hin1,hc1,Ht,hFm,by simp⟩
 case round =>
  clear Ht hFm hXm hX1;obtain ⟨j,m,ls,rr,ar,cr,rfl,hjm,hmn,hrl,hX,hinr,hcr,hown,hF,hpre⟩:=hrel;have HP:=Lib.hid hpre;clear hpre;have hzw:=hF.size;have h0R:Below w0.heap.size w0 wr:=h0W.trans (hF.below (by omega) (fun q hq=>by simp only [isR] at hq;omega));by_cases hgo:0<m∧rr.e=0
  ·obtain ⟨hm0,hre⟩:=hgo
   obtain ⟨n,rfl⟩:∃ n,m=n+1:=⟨m - 1,by omega⟩;have hjk:j<N:=by omega
   have d1:=decide_eq_true hjk;have d2:decide ((j:Int)<(N:Int))=true:=decide_eq_true (by omega);have q1:(rr.e == 0)=true:=beq_iff_eq.2 hre;have hf:=jU rr;have HS:Hid (bT N x=((bT n (eY rr).1).1,(ls++[(eY rr).2])++(bT n (eY rr).1).2)):=by rw [Hid,HP.out,lh hre];simp
   have hG0:=oJ rr;obtain ⟨r2,d,hrd⟩:∃ r2 d,eY rr=(r2,d):=⟨_,_,rfl⟩;rw [hrd] at hf HS hG0;simp only at hf HS hG0;have HG:=Lib.hid (fun (U:World) (h:Below w0.heap.size w0 U)=>hG0 ar cr w0 U h hrl hcr hinr);obtain ⟨p0,p1,zf0,zf1⟩:=hX.two;have hrg:=hX.range;clear hrd hG0 HP hre;go_upto_region 7 with (first
        | ((with_reducible refine ah 66 _ w1.heap.size 0 [.slice ar rr.b.length cr,.int .i64 rr.e] (bn rr ar cr) rfl _ underlying66 rfl (by kernel_rfl) hrg ?_ rfl ?_);exact rfl)
        | (go_at_call 62;(with_reducible refine (HG.out _ h0R).mono ?_);rintro x w5 ⟨a5,c5,rfl,FH,hc5,hb5⟩)
        | (refine dI 66 _ _ _ #[.slice a5 r2.b.length c5,.int .i64 r2.e] _ rfl rfl (by kernel_rfl) rfl (by kernel_rfl) ?_)
        | (refine cu 121 _ _ _ #[.int .i64 d.a.dev,.int .i64 d.a.inc,.int .i64 d.seq] (w5.heap.size+1) (by simp) rfl rfl (by kernel_rfl) rfl (by kernel_rfl) ?_))
   refine au (fun U hU=>?_);have hN5:RdBlk U w5.heap.size r2 a5 c5:=by rw [hU.out];exact RdBlk.new2 w5 r2 a5 c5 _
   have hS:StBlk U (w5.heap.size+1) #[.int .i64 d.a.dev,.int .i64 d.a.inc,.int .i64 d.seq] 121:=by rw [hU.out];exact StBlk.new2 w5 _ _ _
   have hbU:Below wr.heap.size wr U:=by rw [hU.out];exact (hb5.alloc hb5.size _).alloc (Nat.le_trans hb5.size (by simp)) _
   have hz5:=hb5.size;have hXU:=hX.below hbU;have yw:=ownsRow_below hown hbU;have hFU:=hF.again (Fr.of_below hbU);clear hU hb5 hX hown hF p0 p1 zf0 zf1 hrg;have hrN:=hN5.range;go_upto_region 8 with (first
        | ((with_reducible refine ah 66 _ w5.heap.size 0 [.slice a5 r2.b.length c5,.int .i64 r2.e] (bn r2 a5 c5) rfl _ underlying66 rfl (by kernel_rfl) hrN ?_ rfl ?_);exact rfl)
        | (refine wpList_store_row rfl 66 _ _ rfl w1.heap.size #[.slice a5 r2.b.length c5,.int .i64 r2.e] rfl rfl 66 (dL rr ar cr) hXU (by kernel_rfl) rfl (by kernel_rfl) ?_))
   refine au (fun Y hY=>?_);have hk:∀ q,q≠w1.heap.size→Y.heap[q]?=U.heap[q]?:=fun q hq=>by rw [hY.out];exact aI _ _ _ _ (fun e=>hq e.symm)
   have hXY:RdBlk Y w1.heap.size r2 a5 c5:=by rw [hY.out];exact setRow_heap _ _ _ _ _ _ hXU
   have hSY:StBlk Y (w5.heap.size+1) #[.int .i64 d.a.dev,.int .i64 d.a.inc,.int .i64 d.seq] 121:=(hk _ (by omega)).trans hS;have nS:=kJ yw (fun q hq=>hk q (by omega));have hFY:Fr (isR w1.heap.size) W Y:=by rw [hY.out];exact hFU.setRow (Or.inr rfl) _
   have VN:=hXY.lt;have hVY:=hFY.size;clear hY hk hrN hN5 hXU yw hFU hbU hS;have hrS:=hSY.range;have s0:Y.cell? ⟨w5.heap.size+1,0,none⟩=some (.int .i64 d.a.dev):=by have:=hrS 0 _ rfl;simpa using this
   have s1:Y.cell? ⟨w5.heap.size+1,1,none⟩=some (.int .i64 d.a.inc):=by have:=hrS 1 _ rfl;simpa using this
   have s2:Y.cell? ⟨w5.heap.size+1,2,none⟩=some (.int .i64 d.seq):=by have:=hrS 2 _ rfl;simpa using this
   have hdv:=gW ls;go_wp2_with (at_builtin;go_loud (refine wpList_append_own _ rfl _ _ 32 rfl W.heap.size 174 i0 (.agg #[.int .i64 0,.int .i64 0,.int .i64 0]) 3 24 underlying32 hi hz0 hz1 hz2 rfl (by decide) _ _ _ rfl (nS.alloc _) ⟨Y.heap.size,0,none⟩ 1 1 [.int .i64 d.a.dev,.int .i64 d.a.inc,.int .i64 d.seq] rfl rfl (NP Y d _) (by simp [Value.oneCell']) (by unfold maxLen;omega) (by omega) (by simp;omega) ?_))
   intro v' wf nR hgrow _;rw [pz] at nR;have hXf:RdBlk wf w1.heap.size r2 a5 c5:=(hgrow.block _ (by simp;omega) (fun h=>by have:=(nS.lt _ h.symm).1;omega)).trans (hXY.below ((Below.refl _ _).alloc (Nat.le_refl _) _));have hFf:Fr (isR w1.heap.size) W wf:=(hFY.alloc _).grown2 hgrow (fun q hq=>(nS.lt q hq).1);go_wp2;go_roundw
   case rel=>exact ⟨j+1,n,ls++[d],r2,a5,c5,by go_num,by omega,by simp;omega,by omega,hXf,FH,hc5,by rw [List.length_append];exact nR,hFf,HS.out⟩
   case measure => exact z65
  ·have hend:bT m rr=(rr,[]):=by
        exact z73
   have HQ:Hid (fC r=je (rr,ls)):=by rw [Hid,HV.out,HP.out,hend];simp
   have hlen:ls.length≤4096:=by omega
   obtain ⟨ao,co,hvo,hdo,hao⟩:=qK hown;have HVO:=Lib.hid hvo;have hco:ls.length≤co:=Aw (hvo▸hown);replace hZ:=(hF.block _ (lt_of_block hZ) (by simp only [isR];omega)).trans hZ;replace hbt:Below w.heap.size w wr:=hbt.trans (hF.below (by omega) (fun q hq=>by simp only [isR] at hq;omega));clear hown hend HP HV hF;rw [HVO.out];clear hvo;by_cases he:rr.e=0
   ·have hm0:m=0:=by
     by_cases h0:m=0
     ·exact h0
     ·exact absurd ⟨by omega,he⟩ hgo
    subst hm0;have hjk:¬ j<N:=by omega
    have d1:=decide_eq_false hjk;have d2:decide ((j:Int)<(N:Int))=false:=decide_eq_false (by omega)
    refine y48 ?_
    intro q1 q2 HQ2
    have Dv:=fun (X:World) (c:Nat) (h:DotsIn X ao ls)=>Ah ao c ls X (by omega) h;have HRF:Hid (fV rr (aW ls)=⟨rr.b,aW ls⟩):=by unfold Hid fV;rw [if_pos he]
    obtain ⟨me,Qa⟩:∃ me,me=aW ls:=⟨_,rfl⟩;rw [← Qa] at HQ2 HRF Dv;have HCK:=Lib.hid Dv;obtain ⟨p0,p1,zf0,zf1⟩:=hX.two;have HHE:=Lib.hid he;clear Dv Qa hgo he HQ;go_upto_region 11 with (go_at_call 106;(with_reducible refine (HCK.out _ _ hdo).mono ?_);rintro v w3 ⟨rfl,hb3⟩;obtain ⟨y0,y1,yf0,yf1⟩:=(hX.below hb3).two)
    refine au (fun U hU=>?_);have hk:∀ q,q≠w1.heap.size→U.heap[q]?=w3.heap[q]?:=fun q hq=>by rw [hU.out];exact heap_setCell_other _ _ _ _ (fun e=>hq e.symm)
    have hXU:RdBlk U w1.heap.size ⟨rr.b,me⟩ ar cr:=by rw [hU.out];exact pJ (hX.below hb3) _
    have hZU:=(hk _ (by omega)).trans ((hb3.block _ (lt_of_block hZ)).trans hZ);have hbU:Below w.heap.size w U:=by rw [hU.out];exact (below2 hbt hb3).setCell (by simp only;omega) _
    have hdU:DotsIn U ao ls:=(hdo.kept hb3).keep (fun A off h _=>hk _ (by have:=hao A off h;omega));clear hU hk hX hZ hbt hdo hb3 p0 p1 zf0 zf1 y0 y1 yf0 yf1 q1 q2;have hX:=hXU;have hZ:=hZU;by_cases hme:me=0
    ·have HQ3:Hid (fC r=(⟨rr.b,me⟩,ls)):=by rw [Hid,HQ2.out,if_pos hme,hme];cases rr;simp only at *;rw [HHE.out]
     have q3:(me == 0)=true:=beq_iff_eq.2 hme;have q4:(me != 0)=false:=by rw [bne_eq_false_iff_eq];exact hme
     clear HQ2 hme;obtain ⟨p0,p1,zf0,zf1⟩:=hX.two;have hrg:=hX.range;go_wp2_with (first
      | ((with_reducible refine ah 66 _ w1.heap.size 0 [.slice ar (⟨rr.b,me⟩:Rd).b.length cr,.int .i64 (⟨rr.b,me⟩:Rd).e] (bn (⟨rr.b,me⟩:Rd) ar cr) rfl _ underlying66 rfl (by kernel_rfl) hrg ?_ rfl ?_);exact rfl)
      | (refine wpList_store_row rfl 66 _ _ rfl (w.heap.size+1) #[.slice ar (⟨rr.b,me⟩:Rd).b.length cr,.int .i64 (⟨rr.b,me⟩:Rd).e] rfl rfl 66 bQ hZ (by kernel_rfl) rfl (by kernel_rfl) ?_)
      )
     refine bI 2 3 66 66 (w.heap.size+1) #[.slice ar (⟨rr.b,me⟩:Rd).b.length cr,.int .i64 (⟨rr.b,me⟩:Rd).e] _ (.slice ao ls.length co) rfl rfl rfl (setRow_heap _ _ _ _ _ _ hZ) underlying66 rfl (by kernel_rfl) rfl ?_;unfold CE;rw [HQ3.out];exact ⟨ar,cr,ao,co,rfl,hinr,hcr,hdU.setRow _ (fun A off h=>by have:=hao A off h;omega),below_setRow hbU (by omega) _,fun A off h=>by have:=hao A off h;omega,hco⟩
    ·have HQ3:Hid (fC r=(⟨rr.b,me⟩,[])):=by rw [Hid,HQ2.out,if_neg hme,HRF.out]
     have q3:(me == 0)=false:=beq_eq_false_iff_ne.2 hme;have q4:(me != 0)=true:=by rw [bne_iff_ne];exact hme
     clear HQ2 hme;obtain ⟨p0,p1,zf0,zf1⟩:=hX.two;have hrg:=hX.range;go_wp2_with (first
      | ((with_reducible refine ah 66 _ w1.heap.size 0 [.slice ar (⟨rr.b,me⟩:Rd).b.length cr,.int .i64 (⟨rr.b,me⟩:Rd).e] (bn (⟨rr.b,me⟩:Rd) ar cr) rfl _ underlying66 rfl (by kernel_rfl) hrg ?_ rfl ?_);exact rfl)
      | (refine wpList_store_row rfl 66 _ _ rfl (w.heap.size+1) #[.slice ar (⟨rr.b,me⟩:Rd).b.length cr,.int .i64 (⟨rr.b,me⟩:Rd).e] rfl rfl 66 bQ hZ (by kernel_rfl) rfl (by kernel_rfl) ?_)
      )
     refine bI 2 3 66 66 (w.heap.size+1) #[.slice ar (⟨rr.b,me⟩:Rd).b.length cr,.int .i64 (⟨rr.b,me⟩:Rd).e] _ (.slice none 0 0) rfl rfl rfl (setRow_heap _ _ _ _ _ _ hZ) underlying66 rfl (by kernel_rfl) rfl ?_;unfold CE;rw [HQ3.out];exact ⟨ar,cr,none,0,rfl,hinr,hcr,Or.inl rfl,below_setRow hbU (by omega) _,(fun A off h=>by cases h),Nat.le_refl _⟩
   ·refine y57 ?_
    intro q1 q2 HQ3
    clear HQ hgo he
    by_cases hjk:j<N
    ·have d1:=decide_eq_true hjk
     have d2:decide ((j:Int)<(N:Int))=true:=decide_eq_true (by omega)
     exact z28
    ·have d1:=decide_eq_false hjk
     have d2:decide ((j:Int)<(N:Int))=false:=decide_eq_false (by omega)
     exact z28
/-- events that grow, in memory of its own; the dots elsewhere; blocks of S may be written -/
structure EvsOwn (S:Nat→Prop) (w0:World) (v:Value) (ls:List bH) (W:World):Prop where
 own:W.ownsRow w0.heap.size 127 19 v ls.length (aV ls)
 dots:∀ x∈ls,DotsIn W x.2.1 x.1.over
 ne:∀ x∈ls,∀ A off,x.2.1=some ⟨A,off,none⟩→x.1.over≠[]→w0.heap.size≤A∧v.ownBlock≠some A
 fr:Fr S w0 W
theorem EvsOwn.step {S:Nat→Prop} {w0 w w':World} {v:Value} {ls:List bH} (h:EvsOwn S w0 v ls w) (hb:Below w.heap.size w w'):EvsOwn S w0 v ls w' :=
 ⟨ownsRow_below h.own hb,fun x hx=>(h.dots x hx).kept hb,h.ne,h.fr.again (Fr.of_below hb)⟩
theorem EvsOwn.other {S:Nat→Prop} {w0 w w':World} {v:Value} {ls:List bH} (h:EvsOwn S w0 v ls w) {g:Nat} (hg:g<w0.heap.size) (hk:∀ k,k≠g→w'.heap[k]?=w.heap[k]?) (hf:Fr S w0 w'):EvsOwn S w0 v ls w' :=
 ⟨kJ h.own (fun k hk2=>hk k (by omega)),fun x hx=>(h.dots x hx).keep (fun A off hA hne=>hk A (by have:=(h.ne x hx A off hA hne).1;omega)),h.ne,hf⟩
theorem EvsOwn.app {S:Nat→Prop} {w0 w w2:World} {v v2:Value} {ls:List bH} {x:bH} (h:EvsOwn S w0 v ls w) (hown:w2.ownsRow w0.heap.size 127 19 v2 (ls.length+1) (aV ls++lD x))
 (hg:w.grownBy w2 v.ownBlock) (hat:v2.ownBlock=v.ownBlock∨v2.ownBlock=some w.heap.size) (hd:DotsIn w x.2.1 x.1.over) (hx:∀ A off,x.2.1=some ⟨A,off,none⟩→x.1.over≠[]→w0.heap.size≤A∧v.ownBlock≠some A):EvsOwn S w0 v2 (ls++[x]) w2:=by
 have hall:∀ y∈ls++[x],DotsIn w y.2.1 y.1.over∧∀ A off,y.2.1=some ⟨A,off,none⟩→y.1.over≠[]→w0.heap.size≤A∧v.ownBlock≠some A:=by
  intro y hy;rcases List.mem_append.1 hy with hy | hy
  ·exact ⟨h.dots y hy,h.ne y hy⟩
  ·simp only [List.mem_singleton] at hy;subst hy;exact ⟨hd,hx⟩
 refine ⟨by rw [jy,List.length_append];exact hown,fun y hy=>?_,fun y hy A off hA hne=>⟨((hall y hy).2 A off hA hne).1,?_⟩,h.fr.grown2 hg (fun k hk=>(h.own.lt k hk).1)⟩
 ·obtain ⟨h1,h2⟩:=hall y hy
  refine h1.keep (fun A off hA hne=>hg.block A ?_ (fun e=>(h2 A off hA hne).2 e.symm));rw [hA] at h1;exact jK h1 hne
 ·obtain ⟨h1,h2⟩:=hall y hy
  rcases hat with hat | hat
  ·rw [hat];exact (h2 A off hA hne).2
  ·rw [hA] at h1
   have:=jK h1 hne;rw [hat];intro e;injection e with e;omega
theorem EvsOwn.fresh {S:Nat→Prop} {w0 w:World} {v:Value} {ls:List bH} (h:EvsOwn S w0 v ls w) {a:Option Addr} {p:Prop} (hn:∀ A off,a=some ⟨A,off,none⟩→w.heap.size≤A):∀ A off,a=some ⟨A,off,none⟩→p→w0.heap.size≤A∧v.ownBlock≠some A :=
 fun A off ha _=>⟨Nat.le_trans h.fr.size (hn A off ha),fun e=>by have:=hn A off ha;have:=(h.own.lt A e).2;omega⟩
theorem yD {P:Program} {o:Oper} {a:Act} {w:World} (t:TypeId) (parts:Array (Nat×Operand)) (ho:o.op=.build t parts) (cells:Array Value) (hf:P.built t (parts.map fun (i,x)=>(i,a.eval x)).toList=some cells):(execOp a.eval o).run P w=.ok (.value (.agg cells)) w:=by
 unfold execOp;simp only [ho,Sem.run_bind,run_build w t _ cells hf,Result.andThen_ok,Sem.run_pure]
/-- behind a read of an event: the reader behind it, and the event -/
def UG (r:Rd) (e:Ev) (ae:Option Addr) (ce:Nat) (w0 w:World) (x:Ending) (w':World):Prop :=
 ∃ a cap,x=.returned (.tuple #[bn r a cap,jY e ae ce])∧BytesIn w0 a r.b∧r.b.length≤cap∧Below w.heap.size w w'
theorem EvBlk.setKey {w:World} {E:Nat} {e:Ev} {a:Option Addr} {cap:Nat} (h:EvBlk w E e a cap) (x y z:ByteArray):EvBlk (w.setCells E 7 [.string x,.string y,.string z]) E { e with key:=⟨x,y,z⟩ } a cap:=by
 exact z111
theorem below_setCells {B:Nat} {W w:World} (h:Below B W w) {g:Nat} (hg:B≤g):∀ (vs:List Value) (o:Nat),Below B W (w.setCells g o vs):=by
 intro vs;induction vs generalizing w with
 | nil=>intro o;exact h
 | cons v vs ih=>intro o;rw [World.setCells];exact ih (h.setCell hg v) _
theorem z113 {p : Prop} (h : p := by rw [hW.out]; unfold RdBlk; rw [Below.heap_alloc _ _ _ (by simp <;> omega), Below.heap_alloc _ _ _ (by simp <;> omega), Below.heap_alloc _ _ _ (by simp)]; exact heap_alloc_last w _) : p := h
theorem Nh (r:Rd) (a:Option Addr) (cap:Nat) (e:Ev) (ae:Option Addr) (ce:Nat) (w0 w:World) (h0:Below w0.heap.size w0 w) (hl:r.b.length≤1073741824) (hc:r.b.length≤cap) (hby:BytesIn w0 a r.b) :
 Calls prog 108 #[bn r a cap,jY e ae ce] w (UG (fU r) (bY e r) ae ce w0 w):=by
 have HV1:Hid (fU r=(bg 1099511627776 (bg 1099511627776 (iq 1099511627776 (aN 1024 (aN 256 (aN 256 (aN 256 r).1).1).1).1).1).1).1):=rfl;have HV2:Hid (bY e r={ e with key:=⟨mkS (aN 256 r).2,mkS (aN 256 (aN 256 r).1).2,mkS (aN 256 (aN 256 (aN 256 r).1).1).2⟩,ck:={ e.ck with value:=mkS (aN 1024 (aN 256 (aN 256 (aN 256 r).1).1).1).2,expiry:=(iq 1099511627776 (aN 1024 (aN 256 (aN 256 (aN 256 r).1).1).1).1).2,creation:=(bg 1099511627776 (iq 1099511627776 (aN 1024 (aN 256 (aN 256 (aN 256 r).1).1).1).1).1).2,access:=(bg 1099511627776 (bg 1099511627776 (iq 1099511627776 (aN 1024 (aN 256 (aN 256 (aN 256 r).1).1).1).1).1).1).2 } }):=rfl;obtain ⟨r1,v1,g1⟩:∃ r1 v1,aN 256 r=(r1,v1):=⟨_,_,rfl⟩;have f1:=bV 256 r;rw [g1] at f1 HV1 HV2;simp only at f1 HV1 HV2;obtain ⟨r2,v2,g2⟩:∃ r2 v2,aN 256 r1=(r2,v2):=⟨_,_,rfl⟩;have f2:=bV 256 r1;rw [g2] at f2 HV1 HV2;simp only at f2 HV1 HV2;obtain ⟨r3,v3,g3⟩:∃ r3 v3,aN 256 r2=(r3,v3):=⟨_,_,rfl⟩;have f3:=bV 256 r2;rw [g3] at f3 HV1 HV2;simp only at f3 HV1 HV2;obtain ⟨r4,v4,g4⟩:∃ r4 v4,aN 1024 r3=(r4,v4):=⟨_,_,rfl⟩;have f4:=bV 1024 r3;rw [g4] at f4 HV1 HV2;simp only at f4 HV1 HV2;obtain ⟨r5,v5,g5⟩:∃ r5 v5,iq 1099511627776 r4=(r5,v5):=⟨_,_,rfl⟩;have f5:=Ad 1099511627776 r4 (by omega);rw [g5] at f5 HV1 HV2;simp only at f5 HV1 HV2;obtain ⟨r6,v6,g6⟩:∃ r6 v6,bg 1099511627776 r5=(r6,v6):=⟨_,_,rfl⟩;have f6:=bf 1099511627776 r5;rw [g6] at f6 HV1 HV2;simp only at f6 HV1 HV2;obtain ⟨r7,v7,g7⟩:∃ r7 v7,bg 1099511627776 r6=(r7,v7):=⟨_,_,rfl⟩;have f7:=bf 1099511627776 r6;rw [g7] at f7 HV1 HV2;simp only at f7 HV1 HV2;have C1:Hid (∀ (a:Option Addr) (cap:Nat) W,Below w0.heap.size w0 W→r.b.length≤cap→BytesIn w0 a r.b→Calls prog 26 #[bn r a cap,.int .i64 256] W (iI r1 (.string (mkS v1)) w0 W)):=fun a cap W h hc hb=>by have:=jT r a cap 256 w0 W h (by omega) hc (by omega) (by omega) hb;rw [g1] at this;exact this
 have C2:Hid (∀ (a:Option Addr) (cap:Nat) W,Below w0.heap.size w0 W→r1.b.length≤cap→BytesIn w0 a r1.b→Calls prog 26 #[bn r1 a cap,.int .i64 256] W (iI r2 (.string (mkS v2)) w0 W)):=fun a cap W h hc hb=>by have:=jT r1 a cap 256 w0 W h (by omega) hc (by omega) (by omega) hb;rw [g2] at this;exact this
 have C3:Hid (∀ (a:Option Addr) (cap:Nat) W,Below w0.heap.size w0 W→r2.b.length≤cap→BytesIn w0 a r2.b→Calls prog 26 #[bn r2 a cap,.int .i64 256] W (iI r3 (.string (mkS v3)) w0 W)):=fun a cap W h hc hb=>by have:=jT r2 a cap 256 w0 W h (by omega) hc (by omega) (by omega) hb;rw [g3] at this;exact this
 have C4:Hid (∀ (a:Option Addr) (cap:Nat) W,Below w0.heap.size w0 W→r3.b.length≤cap→BytesIn w0 a r3.b→Calls prog 26 #[bn r3 a cap,.int .i64 1024] W (iI r4 (.string (mkS v4)) w0 W)):=fun a cap W h hc hb=>by have:=jT r3 a cap 1024 w0 W h (by omega) hc (by omega) (by omega) hb;rw [g4] at this;exact this
 have C5:Hid (∀ (a:Option Addr) (cap:Nat) W,Below w0.heap.size w0 W→r4.b.length≤cap→BytesIn w0 a r4.b→Calls prog 147 #[bn r4 a cap,.int .i64 1099511627776] W (iI r5 (.int .i64 v5) w0 W)):=fun a cap W h hc hb=>by have:=EU r4 a cap 1099511627776 w0 W h (by omega) hc (by omega) (by omega) hb;rw [g5] at this;exact this
 have C6:Hid (∀ (a:Option Addr) (cap:Nat) W,Below w0.heap.size w0 W→r5.b.length≤cap→BytesIn w0 a r5.b→Calls prog 24 #[bn r5 a cap,.int .u64 1099511627776] W (iI r6 (.int .u64 v6) w0 W)):=fun a cap W h hc hb=>by have:=di r5 a cap 1099511627776 w0 W h (by omega) hc (by omega) hb;rw [g6] at this;exact this
 have C7:Hid (∀ (a:Option Addr) (cap:Nat) W,Below w0.heap.size w0 W→r6.b.length≤cap→BytesIn w0 a r6.b→Calls prog 24 #[bn r6 a cap,.int .u64 1099511627776] W (iI r7 (.int .u64 v7) w0 W)):=fun a cap W h hc hb=>by have:=di r6 a cap 1099511627776 w0 W h (by omega) hc (by omega) hb;rw [g7] at this;exact this
 have hl7:r7.b.length≤1073741824:=by omega
 have hv5 : -1099511627776≤v5∧v5≤1099511627776:=by omega
 have hv6:v6≤1099511627776:=by omega
 have hv7:v7≤1099511627776:=by omega
 clear g1 f1 g2 f2 g3 f3 g4 f4 g5 f5 g6 f6 g7 f7;go_enter func108,ntmps108;go_upto_region 2 with fail
 refine au (fun W hW=>?_);have hbt:Below w.heap.size w W:=by rw [hW.out];go_grown
 have hB:RdBlk W w.heap.size r a cap:=by
  exact z113
 have hE:EvBlk W (w.heap.size+1) e ae ce:=by
  rw [hW.out];unfold EvBlk;rw [Below.heap_alloc _ _ _ (by simp <;> omega),Below.heap_alloc _ _ _ (by simp <;> omega)];have:=heap_alloc_last (w.alloc (Obj.cells (dL r a cap) 66)) (Obj.cells (ag e ae ce).toArray 127);rw [show (w.alloc (Obj.cells (dL r a cap) 66)).heap.size=w.heap.size+1 by simp] at this;exact this
 have hZ:W.heap[w.heap.size+2]?=some (.cells bQ 66 (0,0)):=by
  rw [hW.out];rw [Below.heap_alloc _ _ _ (by simp <;> omega)];have:=heap_alloc_last ((w.alloc (Obj.cells (dL r a cap) 66)).alloc (Obj.cells (ag e ae ce).toArray 127)) (Obj.cells bQ 66);rw [show ((w.alloc (Obj.cells (dL r a cap) 66)).alloc (Obj.cells (ag e ae ce).toArray 127)).heap.size=w.heap.size+2 by simp] at this;exact this
 have hD:EvBlk W (w.heap.size+3) ev0 none 0:=by
  rw [hW.out];have:=heap_alloc_last (((w.alloc (Obj.cells (dL r a cap) 66)).alloc (Obj.cells (ag e ae ce).toArray 127)).alloc (Obj.cells bQ 66)) (Obj.cells (ag ev0 none 0).toArray 127);rw [show (((w.alloc (Obj.cells (dL r a cap) 66)).alloc (Obj.cells (ag e ae ce).toArray 127)).alloc (Obj.cells bQ 66)).heap.size=w.heap.size+3 by simp] at this;exact this
 have h0W:=h0.trans (hbt.mono h0.size);have hrg:=hB.range;have hlw:=hD.lt;clear hW hB;have D1:=Lib.hid (fun W h=>C1.out a cap W h hc hby);go_upto_region 3 with (first
  | ((with_reducible refine ah 66 _ w.heap.size 0 [.slice a r.b.length cap,.int .i64 r.e] (bn r a cap) rfl _ underlying66 rfl (by kernel_rfl) hrg ?_ rfl ?_);exact rfl)
  | (go_at_call 26;(with_reducible refine (D1.out _ h0W).mono ?_);rintro x w1 ⟨a1,c1,rfl,hin1,hc1,hb1⟩)
  | (refine aB 66 _ _ _ #[.slice a1 r1.b.length c1,.int .i64 r1.e] rfl rfl (by kernel_rfl) rfl (by kernel_rfl) ?_))
 refine au (fun V1 hV=>?_);have hX1:RdBlk V1 w1.heap.size r1 a1 c1:=by rw [hV.out];exact RdBlk.new w1 r1 a1 c1
 have hbv:Below W.heap.size W V1:=by rw [hV.out];exact hb1.alloc hb1.size _
 replace h0W:=h0W.trans (hbv.mono h0W.size);have hlo1:=Nat.lt_of_lt_of_le hlw hb1.size;replace hlw:=Nat.lt_of_lt_of_le hlw hbv.size;clear hV hb1 hrg;have hrg:=hX1.range;replace hZ:=(hbv.block _ (lt_of_block hZ)).trans hZ;replace hD:=hD.below hbv;replace hE:=hE.below hbv;replace hbt:=below2 hbt hbv;clear hbv;obtain ⟨W,hWe⟩:∃ W,W=V1:=⟨_,rfl⟩;subst hWe;have D2:=Lib.hid (fun W h=>C2.out a1 c1 W h hc1 hin1);go_upto_region 4 with (first
  | ((with_reducible refine ah 66 _ w1.heap.size 0 [.slice a1 r1.b.length c1,.int .i64 r1.e] (bn r1 a1 c1) rfl _ underlying66 rfl (by kernel_rfl) hrg ?_ rfl ?_);exact rfl)
  | (go_at_call 26;(with_reducible refine (D2.out _ h0W).mono ?_);rintro x w2 ⟨a2,c2,rfl,hin2,hc2,hb2⟩)
  | (refine aB 66 _ _ _ #[.slice a2 r2.b.length c2,.int .i64 r2.e] rfl rfl (by kernel_rfl) rfl (by kernel_rfl) ?_))
 refine au (fun V2 hV=>?_);have hX2:RdBlk V2 w2.heap.size r2 a2 c2:=by rw [hV.out];exact RdBlk.new w2 r2 a2 c2
 have hbv:Below W.heap.size W V2:=by rw [hV.out];exact hb2.alloc hb2.size _
 replace h0W:=h0W.trans (hbv.mono h0W.size);have hlo2:=Nat.lt_of_lt_of_le hlw hb2.size;replace hlw:=Nat.lt_of_lt_of_le hlw hbv.size;clear hV hb2 hrg;have hrg:=hX2.range;replace hZ:=(hbv.block _ (lt_of_block hZ)).trans hZ;replace hD:=hD.below hbv;replace hE:=hE.below hbv;replace hbt:=below2 hbt hbv;clear hbv;obtain ⟨W,hWe⟩:∃ W,W=V2:=⟨_,rfl⟩;subst hWe;have D3:=Lib.hid (fun W h=>C3.out a2 c2 W h hc2 hin2);go_upto_region 5 with (first
  | ((with_reducible refine ah 66 _ w2.heap.size 0 [.slice a2 r2.b.length c2,.int .i64 r2.e] (bn r2 a2 c2) rfl _ underlying66 rfl (by kernel_rfl) hrg ?_ rfl ?_);exact rfl)
  | (go_at_call 26;(with_reducible refine (D3.out _ h0W).mono ?_);rintro x w3 ⟨a3,c3,rfl,oG,hc3,hb3⟩)
  | (refine aB 66 _ _ _ #[.slice a3 r3.b.length c3,.int .i64 r3.e] rfl rfl (by kernel_rfl) rfl (by kernel_rfl) ?_))
 refine au (fun V3 hV=>?_);have hX3:RdBlk V3 w3.heap.size r3 a3 c3:=by rw [hV.out];exact RdBlk.new w3 r3 a3 c3
 have hbv:Below W.heap.size W V3:=by rw [hV.out];exact hb3.alloc hb3.size _
 replace h0W:=h0W.trans (hbv.mono h0W.size);have hlo3:=Nat.lt_of_lt_of_le hlw hb3.size;replace hlw:=Nat.lt_of_lt_of_le hlw hbv.size;clear hV hb3 hrg;have hrg:=hX3.range;replace hZ:=(hbv.block _ (lt_of_block hZ)).trans hZ;replace hD:=hD.below hbv;replace hE:=hE.below hbv;replace hbt:=below2 hbt hbv;clear hbv;obtain ⟨W,hWe⟩:∃ W,W=V3:=⟨_,rfl⟩;subst hWe;have D4:=Lib.hid (fun W h=>C4.out a3 c3 W h hc3 oG);go_upto_region 6 with (first
  | ((with_reducible refine ah 66 _ w3.heap.size 0 [.slice a3 r3.b.length c3,.int .i64 r3.e] (bn r3 a3 c3) rfl _ underlying66 rfl (by kernel_rfl) hrg ?_ rfl ?_);exact rfl)
  | (go_at_call 26;(with_reducible refine (D4.out _ h0W).mono ?_);rintro x w4 ⟨a4,c4,rfl,Dh,hc4,hb4⟩)
  | (refine aB 66 _ _ _ #[.slice a4 r4.b.length c4,.int .i64 r4.e] rfl rfl (by kernel_rfl) rfl (by kernel_rfl) ?_))
 refine au (fun V4 hV=>?_);have hX4:RdBlk V4 w4.heap.size r4 a4 c4:=by rw [hV.out];exact RdBlk.new w4 r4 a4 c4
 have hbv:Below W.heap.size W V4:=by rw [hV.out];exact hb4.alloc hb4.size _
 replace h0W:=h0W.trans (hbv.mono h0W.size);have TW:=Nat.lt_of_lt_of_le hlw hb4.size;replace hlw:=Nat.lt_of_lt_of_le hlw hbv.size;clear hV hb4 hrg;have hrg:=hX4.range;replace hZ:=(hbv.block _ (lt_of_block hZ)).trans hZ;replace hD:=hD.below hbv;replace hE:=hE.below hbv;replace hbt:=below2 hbt hbv;clear hbv;obtain ⟨W,hWe⟩:∃ W,W=V4:=⟨_,rfl⟩;subst hWe;have D5:=Lib.hid (fun W h=>C5.out a4 c4 W h hc4 Dh);go_upto_region 7 with (first
  | ((with_reducible refine ah 66 _ w4.heap.size 0 [.slice a4 r4.b.length c4,.int .i64 r4.e] (bn r4 a4 c4) rfl _ underlying66 rfl (by kernel_rfl) hrg ?_ rfl ?_);exact rfl)
  | (go_at_call 147;(with_reducible refine (D5.out _ h0W).mono ?_);rintro x w5 ⟨a5,c5,rfl,FH,hc5,hb5⟩)
  | (refine aB 66 _ _ _ #[.slice a5 r5.b.length c5,.int .i64 r5.e] rfl rfl (by kernel_rfl) rfl (by kernel_rfl) ?_))
 refine au (fun V5 hV=>?_);have hX5:RdBlk V5 w5.heap.size r5 a5 c5:=by rw [hV.out];exact RdBlk.new w5 r5 a5 c5
 have hbv:Below W.heap.size W V5:=by rw [hV.out];exact hb5.alloc hb5.size _
 replace h0W:=h0W.trans (hbv.mono h0W.size);have XJ:=Nat.lt_of_lt_of_le hlw hb5.size;replace hlw:=Nat.lt_of_lt_of_le hlw hbv.size;clear hV hb5 hrg;have hrg:=hX5.range;replace hZ:=(hbv.block _ (lt_of_block hZ)).trans hZ;replace hD:=hD.below hbv;replace hE:=hE.below hbv;replace hbt:=below2 hbt hbv;clear hbv;obtain ⟨W,hWe⟩:∃ W,W=V5:=⟨_,rfl⟩;subst hWe;have D6:=Lib.hid (fun W h=>C6.out a5 c5 W h hc5 FH);go_upto_region 8 with (first
  | ((with_reducible refine ah 66 _ w5.heap.size 0 [.slice a5 r5.b.length c5,.int .i64 r5.e] (bn r5 a5 c5) rfl _ underlying66 rfl (by kernel_rfl) hrg ?_ rfl ?_);exact rfl)
  | (go_at_call 24;(with_reducible refine (D6.out _ h0W).mono ?_);rintro x w6 ⟨a6,c6,rfl,Qd,hc6,hb6⟩)
  | (refine aB 66 _ _ _ #[.slice a6 r6.b.length c6,.int .i64 r6.e] rfl rfl (by kernel_rfl) rfl (by kernel_rfl) ?_))
 refine au (fun V6 hV=>?_);have hX6:RdBlk V6 w6.heap.size r6 a6 c6:=by rw [hV.out];exact RdBlk.new w6 r6 a6 c6
 have hbv:Below W.heap.size W V6:=by rw [hV.out];exact hb6.alloc hb6.size _
 replace h0W:=h0W.trans (hbv.mono h0W.size);have XI:=Nat.lt_of_lt_of_le hlw hb6.size;replace hlw:=Nat.lt_of_lt_of_le hlw hbv.size;clear hV hb6 hrg;have hrg:=hX6.range;replace hZ:=(hbv.block _ (lt_of_block hZ)).trans hZ;replace hD:=hD.below hbv;replace hE:=hE.below hbv;replace hbt:=below2 hbt hbv;clear hbv;obtain ⟨W,hWe⟩:∃ W,W=V6:=⟨_,rfl⟩;subst hWe;have D7:=Lib.hid (fun W h=>C7.out a6 c6 W h hc6 Qd);go_upto_region 9 with (first
  | ((with_reducible refine ah 66 _ w6.heap.size 0 [.slice a6 r6.b.length c6,.int .i64 r6.e] (bn r6 a6 c6) rfl _ underlying66 rfl (by kernel_rfl) hrg ?_ rfl ?_);exact rfl)
  | (go_at_call 24;(with_reducible refine (D7.out _ h0W).mono ?_);rintro x w7 ⟨a7,c7,rfl,TZ,hc7,hb7⟩)
  | (refine aB 66 _ _ _ #[.slice a7 r7.b.length c7,.int .i64 r7.e] rfl rfl (by kernel_rfl) rfl (by kernel_rfl) ?_))
 refine au (fun V7 hV=>?_);have hX7:RdBlk V7 w7.heap.size r7 a7 c7:=by rw [hV.out];exact RdBlk.new w7 r7 a7 c7
 have hbv:Below W.heap.size W V7:=by rw [hV.out];exact hb7.alloc hb7.size _
 replace h0W:=h0W.trans (hbv.mono h0W.size);have WR:=Nat.lt_of_lt_of_le hlw hb7.size;replace hlw:=Nat.lt_of_lt_of_le hlw hbv.size;clear hV hb7 hrg;have hrg:=hX7.range;replace hZ:=(hbv.block _ (lt_of_block hZ)).trans hZ;replace hD:=hD.below hbv;replace hE:=hE.below hbv;replace hbt:=below2 hbt hbv;clear hbv;obtain ⟨W,hWe⟩:∃ W,W=V7:=⟨_,rfl⟩;subst hWe;clear C1 D1 C2 D2 C3 D3 C4 D4 C5 D5 C6 D6 C7 D7;go_upto_region 10 with (refine wpList_store_mid rfl 123 _ _ rfl (w.heap.size+1) 7 #[.string (mkS v1),.string (mkS v2),.string (mkS v3)] rfl rfl (hE.there 7 3 (by omega)) (by kernel_rfl) (by kernel_rfl) ?_)
 refine au (fun V hV=>?_);have hE2:=hE.setKey (mkS v1) (mkS v2) (mkS v3);have hlt:=hE.lt;have hk:∀ k,k≠w.heap.size+1→V.heap[k]?=W.heap[k]?:=fun k hk=>by rw [hV.out];exact heap_setCells_other _ _ _ _ _ (fun h=>hk h.symm)
 have o7:Below w.heap.size w V:=by rw [hV.out];exact below_setCells hbt (by omega) _ _
 rw [← hV.out] at hE2;have hrz:w.heap.size+3<w7.heap.size:=WR;have hX:RdBlk V w7.heap.size r7 a7 c7:=(hk _ (by omega)).trans hX7;have hZ2:=(hk _ (by omega)).trans hZ;have hD2:EvBlk V (w.heap.size+3) ev0 none 0:=(hk _ (by omega)).trans hD;clear hV hk hE hbt hX7 hZ hD hrg h0W;have e10:=hE2.cell 10 _ rfl;have e15:=hE2.cell 15 _ rfl;have e16:=hE2.cell 16 _ rfl;have e17:=hE2.cell 17 _ rfl;rw [Nat.zero_add] at e10 e15 e16 e17;have z10:=hE2.free 10;have z15:=hE2.free 15;have z16:=hE2.free 16;have z17:=hE2.free 17;go_upto_region 14 with fail
 refine au (fun U hU=>?_);have hE3:=(((hE2.set10 (mkS v4)).set15 v5).set16 (v6:Int)).set17 (v7:Int);have hk:∀ k,k≠w.heap.size+1→U.heap[k]?=V.heap[k]?:=fun k hk=>by
  rw [hU.out];exact (heap_setCell_other _ _ _ _ (fun h=>hk h.symm)).trans ((heap_setCell_other _ _ _ _ (fun h=>hk h.symm)).trans ((heap_setCell_other _ _ _ _ (fun h=>hk h.symm)).trans (heap_setCell_other _ _ _ _ (fun h=>hk h.symm))))
 have hbt:Below w.heap.size w U:=by rw [hU.out];exact (((o7.setCell (by simp only;omega) _).setCell (by simp only;omega) _).setCell (by simp only;omega) _).setCell (by simp only;omega) _
 rw [← hU.out] at hE3;obtain ⟨ef,hef⟩:∃ ef:Ev,ef={ e with key:=⟨mkS v1,mkS v2,mkS v3⟩,ck:={ e.ck with value:=mkS v4,expiry:=v5,creation:=v6,access:=v7 } }:=⟨_,rfl⟩;have hE:EvBlk U (w.heap.size+1) ef ae ce:=by rw [hef];exact hE3
 have HE2:Hid (bY e r=ef):=by rw [Hid,HV2.out,hef]
 have hX7:RdBlk U w7.heap.size r7 a7 c7:=(hk _ (by omega)).trans hX;have hZ:=(hk _ (by omega)).trans hZ2;have hD:EvBlk U (w.heap.size+3) ev0 none 0:=(hk _ (by omega)).trans hD2;clear hU hk hE2 hE3 o7 hX hZ2 hD2 hef e10 e15 e16 e17 z10 z15 z16 z17;have hother:∀ (W':World) (g:Nat) (cs:Array Value) (b:Nat) (l:List Value),g≠b→W'.rangeAt b 0 l→(W'.setRow g cs).rangeAt b 0 l:=fun W' g cs b l hne h j v hv=>(World.cell?_of_block (aI _ _ _ _ (by simpa using hne))).trans (h j v hv);have hD4:∀ cs:Array Value,(U.drew.setRow (w.heap.size+2) cs).heap[w.heap.size+3]?=some (.cells (ag ev0 none 0).toArray 127 (0,0)):=fun cs=>(aI _ _ _ _ (by omega)).trans hD;refine wp_region_noPanic ?_;refine wp_region_held_drew (S:=fun W'=>W'.rangeAt (w.heap.size+1) 0 (ag ef ae ce)∧W'.rangeAt w7.heap.size 0 [.slice a7 r7.b.length c7,.int .i64 r7.e]) (by kernel_rfl) ⟨hE.cell,hX7.range⟩ (fun hHeld=>?_);refine tH 0 80 rfl (yieldsIf_load_mid (by rfl) 66 _ rfl w7.heap.size 0 rfl [.slice a7 r7.b.length c7,.int .i64 r7.e] _ (fun _ h=>h.2) underlying66 rfl (by kernel_rfl)) ?_;try simp only [pS]
 refine tH 1 81 rfl (yieldsIf_load_mid (by rfl) 127 _ rfl (w.heap.size+1) 0 rfl (ag ef ae ce) _ (fun _ h=>h.1) underlying127 rfl (by kernel_rfl)) ?_;try simp only [pS]
 refine wpAnyH_ready (rs:=[2]) (by kernel_rfl) (by simp) ?_;refine AllReadyH.cons rfl (fun K hK=>?_) AllReadyH.nil;refine dY rfl 66 _ _ rfl (w.heap.size+2) #[.slice a7 r7.b.length c7,.int .i64 r7.e] rfl rfl 66 bQ hZ (by kernel_rfl) rfl (by kernel_rfl) ?_;refine hK.out _ _ ?_ (fun hHeld=>?_)
 ·exact ⟨hother _ _ _ _ _ (by omega) hE.cell,hother _ _ _ _ _ (by omega) hX7.range⟩
 clear hK K;try simp only [pS]
 refine wpAnyH_ready (rs:=[3]) (by kernel_rfl) (by simp) ?_;refine AllReadyH.cons rfl (fun K hK=>?_) AllReadyH.nil;refine dY rfl 127 _ _ rfl (w.heap.size+3) (ag ef ae ce).toArray rfl rfl 127 (ag ev0 none 0).toArray (hD4 _) (by kernel_rfl) rfl (by kernel_rfl) ?_;refine hK.out _ _ ?_ (fun hHeld=>?_)
 ·exact ⟨hother _ _ _ _ _ (by omega) (hother _ _ _ _ _ (by omega) hE.cell),hother _ _ _ _ _ (by omega) (hother _ _ _ _ _ (by omega) hX7.range)⟩
 clear hK K;try simp only [pS]
 refine wpAnyH_done (by kernel_rfl) ?_ _;refine NoPanic.normal ?_;go_wp2;have hrows:=gy (w:=U.drew) #[.slice a7 r7.b.length c7,.int .i64 r7.e] (ag ef ae ce).toArray (show w.heap.size+2≠w.heap.size+3 by omega) hZ hD;refine gI 4 5 66 127 66 127 (w.heap.size+2) (w.heap.size+3) _ (ag ef ae ce).toArray _ _ rfl rfl rfl hrows.1 hrows.2 underlying66 rfl (by kernel_rfl) underlying127 rfl (by kernel_rfl) rfl ?_;rw [HV1.out,HE2.out];exact ⟨a7,c7,rfl,TZ,hc7,below_setRow (below_setRow hbt.drew (by omega) _) (by omega) _⟩
end Go.Proofs.YtepkclldbkhanaaGreat
