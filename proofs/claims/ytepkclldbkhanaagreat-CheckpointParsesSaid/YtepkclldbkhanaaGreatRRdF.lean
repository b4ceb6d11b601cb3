/- The references' reader by value: an event. Conditions: at most 2^30 bytes. -/
import Derived.Test.YtepkclldbkhanaaGreatRRdE
import Derived.Test.YtepkclldbkhanaaGreatLoad
set_option linter.unusedSimpArgs false
set_option linter.unusedVariables false
set_option linter.unnecessarySimpa false
set_option maxHeartbeats 16000000
set_option maxRecDepth 100000
open Go.Proofs.Tryz
namespace Go.Proofs.YtepkclldbkhanaaGreat
open Go.RowKit
/-- behind the read of an event -/
def wS (r:Rd) (w0 w:World) (x:Ending) (w':World):Prop :=
 ∃ a cap ae ce,x=.returned (.tuple #[bn (rEv r).1 a cap,jY (rEv r).2 ae ce])∧BytesIn w0 a (rEv r).1.b∧(rEv r).1.b.length≤cap∧DotsIn w' ae (rEv r).2.over∧Below w.heap.size w w'∧(∀ A off,ae=some ⟨A,off,none⟩→w.heap.size≤A)
theorem jo {X E k:Nat} (h1:k≠X) (h2:k≠E):¬ jq X E k:=fun h=>h.elim h1 h2
/-- what holds through the loop over the dots: W the world ahead of it -/
def FX (w0 W wr:World) (X E:Nat) (e:Ev) (rr:Rd) (l:List Dot):Prop :=
 ∃ ar cr ad cap,RdBlk wr X rr ar cr∧BytesIn w0 ar rr.b∧rr.b.length≤cr∧EvBlk wr E { e with over:=l } ad cap∧wr.ownsRow W.heap.size 121 3 (.slice ad l.length cap) l.length (aY l)∧Fr (jq X E) W wr
/-- ahead of the last test: what the reader and the event are, and where they lie -/
def UD (r:Rd) (w0 w wx:World) (X lo:Nat):Prop :=
 ∃ rx ev ax cx ad kX,(rx.e≠0→rEv r=(rx,ev0))∧(rx.e=0→tX r=(rx,ev))∧RdBlk wx X rx ax cx∧BytesIn w0 ax rx.b∧rx.b.length≤cx∧EvBlk wx (w.heap.size+3) ev ad kX∧DotsIn wx ad ev.over∧(∀ A off,ad=some ⟨A,off,none⟩→lo≤A)∧EvSmall ev ∧
   wx.heap[w.heap.size+1]?=some (.cells bQ 66 (0,0))∧EvBlk wx (w.heap.size+2) ev0 none 0∧Below w.heap.size w wx
theorem Nr {r:Rd} (h:r.e≠0):fU r=r:=by
 have ht:∀ m,aN m r=(r,[]):=fun m=>by unfold aN;rw [if_neg h]
 have hi:∀ m,iq m r=(r,0):=fun m=>by unfold iq;rw [if_neg h]
 have hn:∀ m,bg m r=(r,0):=fun m=>by unfold bg;rw [if_neg h]
 unfold fU;simp only [ht,hi,hn]
theorem JK {r:Rd} (h:(dB r).2=[]):(dB r).1.e≠0:=by
 unfold dB at h ⊢;split
 ·rename_i h0
  rw [if_pos h0] at h;split
  ·simp
  ·rename_i h1
   rw [if_neg h1] at h;split
   ·rename_i h2;rw [if_pos h2] at h;simp [iY] at h
   ·simp
 ·rename_i h0;exact h0
theorem Ny {m:Nat} {r:Rd} (h:r.e≠0):(bT m r).1.e≠0:=by rw [sN h];exact h
theorem JL (r:Rd) (a:Option Addr) (cap:Nat) (w0 w:World) (h0:Below w0.heap.size w0 w) (hl:r.b.length≤1073741824) (hc:r.b.length≤cap) (hby:BytesIn w0 a r.b) :
 Calls prog 61 #[bn r a cap] w (wS r w0 w):=by
 obtain ⟨ra,d,h1⟩:∃ a d,eY r=(a,d):=⟨_,_,rfl⟩;obtain ⟨rb,s,h2⟩:∃ b s,dZ ra=(b,s):=⟨_,_,rfl⟩;obtain ⟨rf,fl,h3⟩:∃ f fl,dB rb=(f,fl):=⟨_,_,rfl⟩;obtain ⟨rn,k,h4⟩:∃ n k,bg 64 rf=(n,k):=⟨_,_,rfl⟩;obtain ⟨ro,l,h5⟩:∃ o l,bT k rn=(o,l):=⟨_,_,rfl⟩;have HV:=Lib.hid (FM r h1 h2 h3 h4 h5);have f1:=jU r;have f2:=nJ ra;have f3:=uA rb;have f4:=bf 64 rf;have vS:=yf rb;rw [h1] at f1;rw [h2] at f2;rw [h3] at f3 vS;rw [h4] at f4;simp only at f1 f2 f3 f4 vS;have g1:Hid (∀ W,Below w0.heap.size w0 W→Calls prog 62 #[bn r a cap] W (iI ra (oQ d) w0 W)):=fun W h=>by have:=oJ r a cap w0 W h hl hc hby;rw [h1] at this;exact this
 have g2:Hid (∀ (a:Option Addr) (cap:Nat) W,Below w0.heap.size w0 W→ra.b.length≤cap→BytesIn w0 a ra.b→Calls prog 25 #[bn ra a cap] W (iI rb (iO s) w0 W)):=fun a cap W h hc hb=>by have:=uh ra a cap w0 W h (by omega) hc hb;rw [h2] at this;exact this
 have g3:Hid (∀ (a:Option Addr) (cap:Nat) W,Below w0.heap.size w0 W→rb.b.length≤cap→BytesIn w0 a rb.b→Calls prog 107 #[bn rb a cap,.int .i64 5] W (La rf fl w0 W)):=fun a cap W h hc hb=>by have:=zZ rb a cap w0 W h (by omega) hc hb;rw [h3] at this;exact this
 have g4:Hid (∀ (a:Option Addr) (cap:Nat) W,Below w0.heap.size w0 W→rf.b.length≤cap→BytesIn w0 a rf.b→Calls prog 24 #[bn rf a cap,.int .u64 64] W (iI rn (.int .u64 k) w0 W)):=fun a cap W h hc hb=>by have:=di rf a cap 64 w0 W h (by omega) hc (by omega) hb;rw [h4] at this;exact this
 have H5:=Lib.hid h5;have HFI:=Lib.hid vS;have H34:=Lib.hid (And.intro h3 h4);clear h1 h2 h3 h4 h5 vS;go_enter func61,ntmps61;go_upto_region 2 with (first
  | (refine Great.wpList_buildTo rfl 127 _ rfl _ rfl (ag pg none 0).toArray (by kernel_rfl) ?_)
  | (refine cu 127 _ _ _ (ag pg none 0).toArray (w.heap.size+3) (by simp) rfl rfl (by kernel_rfl) rfl (by kernel_rfl) ?_))
 refine au (fun W hW=>?_);have hbt:Below w.heap.size w W:=by rw [hW.out];go_grown
 have hB:RdBlk W w.heap.size r a cap:=by
  exact z113
 have hZ:W.heap[w.heap.size+1]?=some (.cells bQ 66 (0,0)):=by
  rw [hW.out,Below.heap_alloc _ _ _ (by simp <;> omega),Below.heap_alloc _ _ _ (by simp <;> omega)];exact StBlk.new2 w (Obj.cells (dL r a cap) 66) bQ 66
 have hD:EvBlk W (w.heap.size+2) ev0 none 0:=by
  rw [hW.out];unfold EvBlk;rw [Below.heap_alloc _ _ _ (by simp <;> omega)];have:=StBlk.new2 (w.alloc (Obj.cells (dL r a cap) 66)) (Obj.cells bQ 66) (ag ev0 none 0).toArray 127;rw [show (w.alloc (Obj.cells (dL r a cap) 66)).heap.size=w.heap.size+1 by simp] at this;exact this
 have hE:EvBlk W (w.heap.size+3) pg none 0:=by
  rw [hW.out];have:=StBlk.new2 ((w.alloc (Obj.cells (dL r a cap) 66)).alloc (Obj.cells bQ 66)) (Obj.cells (ag ev0 none 0).toArray 127) (ag pg none 0).toArray 127
  exact z84
 have h0W:=h0.trans (hbt.mono h0.size);have hrg:=hB.range;have hlw:=hE.lt;clear hW hB;go_upto_region 3 with (first
  | ((with_reducible refine ah 66 _ w.heap.size 0 [.slice a r.b.length cap,.int .i64 r.e] (bn r a cap) rfl _ underlying66 rfl (by kernel_rfl) hrg ?_ rfl ?_);exact rfl)
  | (go_at_call 62;(with_reducible refine (g1.out _ h0W).mono ?_);rintro x w1 ⟨a1,c1,rfl,hin1,hc1,hb1⟩)
  | (refine dI 66 _ _ _ #[.slice a1 ra.b.length c1,.int .i64 ra.e] _ rfl rfl (by kernel_rfl) rfl (by kernel_rfl) ?_)
  | (refine cu 121 _ _ _ #[.int .i64 d.a.dev,.int .i64 d.a.inc,.int .i64 d.seq] (w1.heap.size+1) (by simp) rfl rfl (by kernel_rfl) rfl (by kernel_rfl) ?_))
 refine au (fun V1 hV=>?_);have hX1:RdBlk V1 w1.heap.size ra a1 c1:=by rw [hV.out];exact RdBlk.new2 w1 ra a1 c1 _
 have hS1:StBlk V1 (w1.heap.size+1) #[.int .i64 d.a.dev,.int .i64 d.a.inc,.int .i64 d.seq] 121:=by rw [hV.out];exact StBlk.new2 w1 _ _ _
 have hbv:Below W.heap.size W V1:=by rw [hV.out];exact (hb1.alloc hb1.size _).alloc (Nat.le_trans hb1.size (by simp)) _
 replace h0W:=h0W.trans (hbv.mono h0W.size);have hlo1:=Nat.lt_of_lt_of_le hlw hb1.size;replace hlw:=Nat.lt_of_lt_of_le hlw hbv.size;clear hV hb1 hrg;have hrg:=hX1.range;replace hZ:=(hbv.block _ (lt_of_block hZ)).trans hZ;replace hD:=hD.below hbv;replace hE:=hE.below hbv;replace hbt:=below2 hbt hbv;clear hbv;obtain ⟨W,hWe⟩:∃ W,W=V1:=⟨_,rfl⟩;subst hWe;have g2':=Lib.hid (fun W h=>g2.out a1 c1 W h hc1 hin1);go_upto_region 4 with (first
  | ((with_reducible refine ah 66 _ w1.heap.size 0 [.slice a1 ra.b.length c1,.int .i64 ra.e] (bn ra a1 c1) rfl _ underlying66 rfl (by kernel_rfl) hrg ?_ rfl ?_);exact rfl)
  | (go_at_call 25;(with_reducible refine (g2'.out _ h0W).mono ?_);rintro x w2 ⟨a2,c2,rfl,hin2,hc2,hb2⟩)
  | (refine dI 66 _ _ _ #[.slice a2 rb.b.length c2,.int .i64 rb.e] _ rfl rfl (by kernel_rfl) rfl (by kernel_rfl) ?_)
  | (refine cu 25 _ _ _ #[.int .i64 s.wall,.int .i64 s.count,.int .i64 s.dev] (w2.heap.size+1) (by simp) rfl rfl (by kernel_rfl) rfl (by kernel_rfl) ?_))
 refine au (fun V2 hV=>?_);have hX2:RdBlk V2 w2.heap.size rb a2 c2:=by rw [hV.out];exact RdBlk.new2 w2 rb a2 c2 _
 have hS2:StBlk V2 (w2.heap.size+1) #[.int .i64 s.wall,.int .i64 s.count,.int .i64 s.dev] 25:=by rw [hV.out];exact StBlk.new2 w2 _ _ _
 have hbv:Below W.heap.size W V2:=by rw [hV.out];exact (hb2.alloc hb2.size _).alloc (Nat.le_trans hb2.size (by simp)) _
 replace h0W:=h0W.trans (hbv.mono h0W.size);have hlo2:=Nat.lt_of_lt_of_le hlw hb2.size;replace hlw:=Nat.lt_of_lt_of_le hlw hbv.size;clear hV hb2 hrg;have hrg:=hX2.range;replace hZ:=(hbv.block _ (lt_of_block hZ)).trans hZ;replace hD:=hD.below hbv;replace hE:=hE.below hbv;replace hS1:=hS1.below hbv;replace hbt:=below2 hbt hbv;clear hbv;obtain ⟨W,hWe⟩:∃ W,W=V2:=⟨_,rfl⟩;subst hWe;have g3':=Lib.hid (fun W h=>g3.out a2 c2 W h hc2 hin2);have hsw:=h0W.size;go_upto_region 5 with (first
  | ((with_reducible refine ah 66 _ w2.heap.size 0 [.slice a2 rb.b.length c2,.int .i64 rb.e] (bn rb a2 c2) rfl _ underlying66 rfl (by kernel_rfl) hrg ?_ rfl ?_);exact rfl)
  | (go_at_call 107;(with_reducible refine (g3'.out _ h0W).mono ?_);rintro x w3 ⟨a3,c3,fv,rfl,oG,hc3,hfl,hb3⟩)
  | (refine aB 66 _ _ _ #[.slice a3 rf.b.length c3,.int .i64 rf.e] rfl rfl (by kernel_rfl) rfl (by kernel_rfl) ?_))
 refine au (fun V3 hV=>?_);have hX3:RdBlk V3 w3.heap.size rf a3 c3:=by rw [hV.out];exact RdBlk.new w3 rf a3 c3
 have hFL:V3.ownsRow (w.heap.size+4) 4 1 fv fl.length (jZ fl):=by rw [hV.out];exact jh (hfl.alloc _) (by omega)
 have hbv:Below W.heap.size W V3:=by rw [hV.out];exact hb3.alloc hb3.size _
 replace h0W:=h0W.trans (hbv.mono h0W.size);have hlo3:=Nat.lt_of_lt_of_le hlw hb3.size;replace hlw:=Nat.lt_of_lt_of_le hlw hbv.size;have hfx:∀ g,fv.ownBlock=some g→g<w3.heap.size:=fun g hg=>(hfl.lt g hg).2;clear hV hb3 hrg hfl;have hrg:=hX3.range;replace hZ:=(hbv.block _ (lt_of_block hZ)).trans hZ;replace hD:=hD.below hbv;replace hE:=hE.below hbv;replace hS1:=hS1.below hbv;replace hS2:=hS2.below hbv;replace hbt:=below2 hbt hbv;clear hbv;obtain ⟨W,hWe⟩:∃ W,W=V3:=⟨_,rfl⟩;subst hWe;have g4':=Lib.hid (fun W h=>g4.out a3 c3 W h hc3 oG);have HFX:=Lib.hid hfx;clear hfx;replace hlw:=hX3.lt;go_upto_region 6 with (first
  | ((with_reducible refine ah 66 _ w3.heap.size 0 [.slice a3 rf.b.length c3,.int .i64 rf.e] (bn rf a3 c3) rfl _ underlying66 rfl (by kernel_rfl) hrg ?_ rfl ?_);exact rfl)
  | (go_at_call 24;(with_reducible refine (g4'.out _ h0W).mono ?_);rintro x w4 ⟨a4,c4,rfl,Dh,hc4,hb4⟩)
  | (refine aB 66 _ _ _ #[.slice a4 rn.b.length c4,.int .i64 rn.e] rfl rfl (by kernel_rfl) rfl (by kernel_rfl) ?_))
 refine au (fun V4 hV=>?_);have hX4:RdBlk V4 w4.heap.size rn a4 c4:=by rw [hV.out];exact RdBlk.new w4 rn a4 c4
 have hbv:Below W.heap.size W V4:=by rw [hV.out];exact hb4.alloc hb4.size _
 replace h0W:=h0W.trans (hbv.mono h0W.size);have TW:=Nat.lt_of_lt_of_le hlw hb4.size;replace hlw:=Nat.lt_of_lt_of_le hlw hbv.size;clear hV hb4 hrg;have hrg:=hX4.range;replace hZ:=(hbv.block _ (lt_of_block hZ)).trans hZ;replace hD:=hD.below hbv;replace hE:=hE.below hbv;replace hS1:=hS1.below hbv;replace hS2:=hS2.below hbv;replace hFL:=ownsRow_below hFL hbv;replace hbt:=below2 hbt hbv;clear hbv;obtain ⟨W,hWe⟩:∃ W,W=V4:=⟨_,rfl⟩;subst hWe;clear g1 g2 g3 g4 g2' g3' g4' hX1 hX2 hX3 hrg;have hr1:=hS1.range;have hr2:=hS2.range;go_upto_region 7 with (first
  | ((with_reducible refine ah 121 _ (w1.heap.size+1) 0 [.int .i64 d.a.dev,.int .i64 d.a.inc,.int .i64 d.seq] (oQ d) rfl _ underlying121 rfl (by kernel_rfl) hr1 ?_ rfl ?_);exact rfl)
  | (refine wpList_store_mid rfl 121 _ _ rfl (w.heap.size+3) 0 #[.int .i64 d.a.dev,.int .i64 d.a.inc,.int .i64 d.seq] rfl rfl (hE.there 0 3 (by omega)) (by kernel_rfl) (by kernel_rfl) ?_))
 refine au (fun V hV=>?_);have hE1:=hE.setDot d;have hk:∀ k,k≠w.heap.size+3→V.heap[k]?=W.heap[k]?:=fun k hk=>by rw [hV.out];exact heap_setCells_other _ _ _ _ _ (fun h=>hk h.symm)
 have Qg:Below w.heap.size w V:=by rw [hV.out];exact below_setCells hbt (by omega) _ _
 have WW:Fr (jq w4.heap.size (w.heap.size+3)) W V:=by rw [hV.out];exact (Fr.refl _ _).setCells (Or.inr (Or.inr rfl)) _ _
 rw [← hV.out] at hE1;clear hV hr1 hS1;have hr2':V.rangeAt (w2.heap.size+1) 0 [.int .i64 s.wall,.int .i64 s.count,.int .i64 s.dev]:=fun j v hv=>(World.cell?_of_block (hk _ (by simp only;omega))).trans (hr2 j v hv);go_upto_region 8 with (first
  | ((with_reducible refine ah 25 _ (w2.heap.size+1) 0 [.int .i64 s.wall,.int .i64 s.count,.int .i64 s.dev] (iO s) rfl _ underlying25 rfl (by kernel_rfl) hr2' ?_ rfl ?_);exact rfl)
  | (refine wpList_store_mid rfl 25 _ _ rfl (w.heap.size+3) 3 #[.int .i64 s.wall,.int .i64 s.count,.int .i64 s.dev] rfl rfl (hE1.there 3 3 (by omega)) (by kernel_rfl) (by kernel_rfl) ?_))
 refine au (fun V2 hV=>?_);have hE2:=hE1.setStamp s;have hk2:∀ k,k≠w.heap.size+3→V2.heap[k]?=V.heap[k]?:=fun k hk=>by rw [hV.out];exact heap_setCells_other _ _ _ _ _ (fun h=>hk h.symm)
 have o7:Below w.heap.size w V2:=by rw [hV.out];exact below_setCells Qg (by omega) _ _
 rw [← hV.out] at hE2;clear hV hr2 hr2' hS2 hE1 Qg hbt;have hX:RdBlk V2 w4.heap.size rn a4 c4:=((hk2 _ (by omega)).trans (hk _ (by omega))).trans hX4;replace hZ:=((hk2 _ (by omega)).trans (hk _ (by omega))).trans hZ;have hD2:EvBlk V2 (w.heap.size+2) ev0 none 0:=((hk2 _ (by omega)).trans (hk _ (by omega))).trans hD;have Ur:V2.ownsRow (w.heap.size+4) 4 1 fv fl.length (jZ fl):=kJ hFL (fun j hj=>(hk2 _ (by omega)).trans (hk _ (by omega)));have h0V:=h0.trans (o7.mono h0.size);have hXlt:=hX.lt;have TT:=pK k rn;rw [H5.out] at TT;have WN:ro.b.length≤1073741824:=Nat.le_trans TT (by omega);clear TT;have hI0:FX w0 V2 V2 w4.heap.size (w.heap.size+3) ⟨d,s,2,dC,ck0,[]⟩ rn []:=⟨a4,c4,none,0,hX,Dh,hc4,hE2,World.ownsRow_nil _ _ _ _,Fr.refl _ _⟩;obtain ⟨i0,hi,hz0,hz1,hz2⟩:=info_parts Tryz.infoDot;clear hk hk2 hFL hD hX hE2 hX4 hE h0W WW;go_upto_block 0 with fail
 go_cut [] (fun wx=>FX w0 V2 wx w4.heap.size (w.heap.size+3) ⟨d,s,2,dC,ck0,[]⟩ ro l∧l.length≤64)
 case first =>
  go_wp2;go_loopw [13] (fun i wr=>∃ (j m:Nat) (lr:List Dot) (rr:Rd),i=.int .u64 j∧j+m=k∧m+lr.length≤64∧rr.b.length≤1073741824∧FX w0 V2 wr w4.heap.size (w.heap.size+3) ⟨d,s,2,dC,ck0,[]⟩ rr lr∧(ro,l)=((bT m rr).1,lr++(bT m rr).2)) (fun i _=>k - (intOf i).toNat)
  case atStart=>exact ⟨0,k,[],rn,rfl,by omega,by simp;omega,by omega,hI0,by rw [H5.out];rfl⟩
  case round =>
   obtain ⟨j,m,lr,rr,rfl,hjm,hm,hrl,HI,hpre⟩:=hrel;have HP:=Lib.hid hpre;clear hpre hI0;by_cases hgo:0<m∧rr.e=0
   ·obtain ⟨hm0,hre⟩:=hgo
    obtain ⟨n,rfl⟩:∃ n,m=n+1:=⟨m - 1,by omega⟩;have hjk:j<k:=by omega
    have d1:=decide_eq_true hjk;have d2:decide ((j:Int)<(k:Int))=true:=decide_eq_true (by omega);have q1:(rr.e == 0)=true:=beq_iff_eq.2 hre;have hf:=jU rr;have HS:Hid ((ro,l)=((bT n (eY rr).1).1,(lr++[(eY rr).2])++(bT n (eY rr).1).2)):=by rw [Hid,HP.out,lh hre];simp
    have hG0:=oJ rr;obtain ⟨r2,dd,hrd⟩:∃ r2 dd,eY rr=(r2,dd):=⟨_,_,rfl⟩;rw [hrd] at hf HS hG0;simp only at hf HS hG0;obtain ⟨ar,cr,ad,cap',hX,hinr,hcr,hE,hown,hF⟩:=HI;have hzw:=hF.size;have h0R:Below w0.heap.size w0 wr:=h0V.trans (hF.below (by have:=h0V.size;omega) (fun q hq=>by have:=h0.size;rcases hq with rfl | rfl <;> omega));have HG:=Lib.hid (fun (U:World) (h:Below w0.heap.size w0 U)=>hG0 ar cr w0 U h hrl hcr hinr);obtain ⟨p0,p1,g0,g1⟩:=hX.two;have hrg:=hX.range;clear hrd hG0 HP hre;go_upto_region 12 with (first
     | ((with_reducible refine ah 66 _ w4.heap.size 0 [.slice ar rr.b.length cr,.int .i64 rr.e] (bn rr ar cr) rfl _ underlying66 rfl (by kernel_rfl) hrg ?_ rfl ?_);exact rfl)
     | (go_at_call 62;(with_reducible refine (HG.out _ h0R).mono ?_);rintro x w5 ⟨a5,c5,rfl,FH,hc5,hb5⟩)
     | (refine dI 66 _ _ _ #[.slice a5 r2.b.length c5,.int .i64 r2.e] _ rfl rfl (by kernel_rfl) rfl (by kernel_rfl) ?_)
     | (refine cu 121 _ _ _ #[.int .i64 dd.a.dev,.int .i64 dd.a.inc,.int .i64 dd.seq] (w5.heap.size+1) (by simp) rfl rfl (by kernel_rfl) rfl (by kernel_rfl) ?_))
    refine au (fun U hU=>?_);have hN:RdBlk U w5.heap.size r2 a5 c5:=by rw [hU.out];exact RdBlk.new2 w5 r2 a5 c5 _
    have hS:StBlk U (w5.heap.size+1) #[.int .i64 dd.a.dev,.int .i64 dd.a.inc,.int .i64 dd.seq] 121:=by rw [hU.out];exact StBlk.new2 w5 _ _ _
    have hbU:Below wr.heap.size wr U:=by rw [hU.out];exact (hb5.alloc hb5.size _).alloc (Nat.le_trans hb5.size (by simp)) _
    have hz5:=hb5.size;have hXU:=hX.below hbU;have hEU:=hE.below hbU;have yw:=ownsRow_below hown hbU;have hFU:=hF.again (Fr.of_below hbU);have hEl:=hE.lt;have hXl:=hX.lt;clear hU hb5 hX hE hown hF p0 p1 g0 g1 hrg;have hrN:=hN.range;go_upto_region 13 with (first
     | ((with_reducible refine ah 66 _ w5.heap.size 0 [.slice a5 r2.b.length c5,.int .i64 r2.e] (bn r2 a5 c5) rfl _ underlying66 rfl (by kernel_rfl) hrN ?_ rfl ?_);exact rfl)
     | (refine wpList_store_row rfl 66 _ _ rfl w4.heap.size #[.slice a5 r2.b.length c5,.int .i64 r2.e] rfl rfl 66 (dL rr ar cr) hXU (by kernel_rfl) rfl (by kernel_rfl) ?_))
    refine au (fun Y hY=>?_);have hk:∀ q,q≠w4.heap.size→Y.heap[q]?=U.heap[q]?:=fun q hq=>by rw [hY.out];exact aI _ _ _ _ (fun e=>hq e.symm)
    have hXY:RdBlk Y w4.heap.size r2 a5 c5:=by rw [hY.out];exact setRow_heap _ _ _ _ _ _ hXU
    have hEY:EvBlk Y (w.heap.size+3) { (⟨d,s,2,dC,ck0,[]⟩:Ev) with over:=lr } ad cap':=(hk _ (by omega)).trans hEU;have hSY:StBlk Y (w5.heap.size+1) #[.int .i64 dd.a.dev,.int .i64 dd.a.inc,.int .i64 dd.seq] 121:=(hk _ (by omega)).trans hS;have nS:Y.ownsRow V2.heap.size 121 3 (.slice ad lr.length cap') lr.length (aY lr):=kJ yw (fun q hq=>hk q (by omega));have hFY:Fr (jq w4.heap.size (w.heap.size+3)) V2 Y:=by rw [hY.out];exact hFU.setRow (Or.inr (Or.inl rfl)) _
    have X4:=hEY.lt;have VN:=hXY.lt;have hVY:=hFY.size;clear hY hk hrN hN hXU hEU yw hFU hbU hS;have e18:=hEY.cell 18 _ rfl;rw [Nat.zero_add] at e18;have z18:=hEY.free 18;have hrS:=hSY.range;have hdv:=gW lr;go_wp2_with (first
     | ((with_reducible refine ah 121 _ (w5.heap.size+1) 0 [.int .i64 dd.a.dev,.int .i64 dd.a.inc,.int .i64 dd.seq] (oQ dd) rfl _ underlying121 rfl (by kernel_rfl) hrS ?_ rfl ?_);exact rfl)
     | (at_builtin;go_loud (refine wpList_append_own _ rfl _ _ 34 rfl V2.heap.size 121 i0 (.agg #[.int .i64 0,.int .i64 0,.int .i64 0]) 3 24 underlying34 hi hz0 hz1 hz2 rfl (by decide) _ _ _ rfl (nS.alloc _) ⟨Y.heap.size,0,none⟩ 1 1 [.int .i64 dd.a.dev,.int .i64 dd.a.inc,.int .i64 dd.seq] rfl rfl (NP Y dd _) (by simp [Value.oneCell']) (by unfold maxLen;omega) (by omega) (by simp;omega) ?_)))
    intro v' wf nR hgrow _;have gZ:wf.ownsRow V2.heap.size 121 3 v' (lr++[dd]).length (aY (lr++[dd])):=by rw [← pq,List.length_append];exact nR
    obtain ⟨ad',cap2,rfl,-⟩:=iF gZ;have hal:Below Y.heap.size Y (Y.alloc (Obj.cells #[.int .i64 dd.a.dev,.int .i64 dd.a.inc,.int .i64 dd.seq] 121)):=(Below.refl _ _).alloc (Nat.le_refl _) _;have hEf:EvBlk wf (w.heap.size+3) { (⟨d,s,2,dC,ck0,[]⟩:Ev) with over:=lr } ad cap':=(hEY.below hal).grown hgrow (fun h=>by have:=(nS.lt _ h.symm).1;omega);have hXf:RdBlk wf w4.heap.size r2 a5 c5:=(hgrow.block _ (by simp;omega) (fun h=>by have:=(nS.lt _ h.symm).1;omega)).trans (hXY.below hal);have hFf:Fr (jq w4.heap.size (w.heap.size+3)) V2 wf:=(hFY.alloc _).grown2 hgrow (fun q hq=>(nS.lt q hq).1);have e18:=hEf.cell 18 _ rfl;rw [Nat.zero_add] at e18;have z18:=hEf.free 18;have hEs:=hEf.setOver (a':=ad') (cap':=cap2) (lr++[dd]);have hXs:RdBlk (wf.setCell ⟨w.heap.size+3,18,none⟩ (.slice ad' (lr++[dd]).length cap2)) w4.heap.size r2 a5 c5:=(heap_setCell_other _ _ _ _ (by simp only;omega)).trans hXf;have hos:=ownsRow_setCell_other (a:=⟨w.heap.size+3,18,none⟩) gZ (fun e=>by have:=(gZ.lt _ e).1;simp only at this;omega) (.slice ad' (lr++[dd]).length cap2);have hFs:Fr (jq w4.heap.size (w.heap.size+3)) V2 (wf.setCell ⟨w.heap.size+3,18,none⟩ (.slice ad' (lr++[dd]).length cap2)):=hFf.setCell (Or.inr (Or.inr rfl)) _;simp only [List.length_append,List.length_singleton] at hEs hXs hFs hos;have HI2:FX w0 V2 (wf.setCell ⟨w.heap.size+3,18,none⟩ (.slice ad' (lr.length+1) cap2)) w4.heap.size (w.heap.size+3) ⟨d,s,2,dC,ck0,[]⟩ r2 (lr++[dd]):=⟨a5,c5,ad',cap2,hXs,FH,hc5,by simp only [EvBlk,ag,List.length_append,List.length_singleton] at hEs ⊢;exact hEs,by simp only [List.length_append,List.length_singleton];exact hos,hFs⟩;clear hEs hXs hos hFs hEf hXf gZ nR hgrow hEY hXY nS hFY hSY hrS;go_wp2;go_roundw
    case rel=>exact ⟨j+1,n,lr++[dd],r2,by go_num,by omega,by simp;omega,by omega,HI2,HS.out⟩
    case measure => exact z65
   ·have hend:bT m rr=(rr,[]):=by
     exact z73
    have hol:ro=rr∧l=lr:=by
     have h:=HP.out;rw [hend] at h;simp only [Prod.mk.injEq,List.append_nil] at h;exact h
    obtain ⟨rfl,rfl⟩:=hol;have HI2:=Lib.hid HI;obtain ⟨ax,cx,ad,kX,hX,-,-,-,-,-⟩:=HI;obtain ⟨p0,p1,zf0,zf1⟩:=hX.two;clear hend HP hX;by_cases hjk:j<k
    ·have q1:(ro.e == 0)=false:=beq_eq_false_iff_ne.2 (fun e=>hgo ⟨by omega,e⟩)
     have d1:=decide_eq_true hjk;have d2:decide ((j:Int)<(k:Int))=true:=decide_eq_true (by omega);clear hgo;go_wp2;go_meet;exact ⟨HI2.out,by omega⟩
    ·have d1:=decide_eq_false hjk
     have d2:decide ((j:Int)<(k:Int))=false:=decide_eq_false (by omega);clear hgo;go_wp2;go_meet;exact ⟨HI2.out,by omega⟩
 case rest =>
  obtain ⟨HI,hll⟩:=hcut;obtain ⟨ax,cx,ad,kX,hX,Ko,hcx,hE,hown,hF⟩:=HI;obtain ⟨U,hUe⟩:∃ U,U=wc:=⟨_,rfl⟩;subst hUe;have hzw:=hF.size;have hV0:=h0V.size;have hw0:=h0.size;have hbt:Below w.heap.size w U:=o7.trans (hF.below (by omega) (fun q hq=>by rcases hq with rfl | rfl <;> omega));have hbz:=hbt.size;have h0R:=h0.trans (hbt.mono hw0);replace hZ:=(hF.block _ (by omega) (jo (by omega) (by omega))).trans hZ;have hD:EvBlk U (w.heap.size+2) ev0 none 0:=(hF.block _ (by omega) (jo (by omega) (by omega))).trans hD2;have hd:DotsIn U ad l:=by obtain ⟨_,_,h,hd⟩:=iF hown;cases h;exact hd
  have hdz:∀ A off,ad=some ⟨A,off,none⟩→V2.heap.size≤A:=Pz hown;clear hown hD2 o7;obtain ⟨x0,x1,xf0,xf1⟩:=hX.two;go_upto_if 67 with fail
  go_cut [] (fun wx=>UD r w0 w wx w4.heap.size V2.heap.size)
  case first =>
   by_cases hre:ro.e=0
   ·have q1:(ro.e == 0)=true:=beq_iff_eq.2 hre
    have q2:(ro.e != 0)=false:=by rw [bne_eq_false_iff_eq];exact hre
    have hf5:∃ b0 b1 b2 b3 b4,fl=[b0,b1,b2,b3,b4]:=by
     rcases HFI.out with hf0 | hf5
     ·exfalso
      obtain ⟨h3,h4⟩:=H34.out;have e1:rf.e≠0:=by have:=JK (r:=rb) (by rw [h3];exact hf0);rwa [h3] at this
      have e2:rn=rf:=by unfold bg at h4;rw [if_neg e1] at h4;cases h4;rfl
      have e3:=Ny (m:=k) (r:=rn) (by rw [e2];exact e1);rw [H5.out] at e3;exact e3 hre
     ·exact hf5
    obtain ⟨b0,b1,b2,b3,b4,rfl⟩:=hf5;obtain ⟨g,Sz,rfl,hgl,pp⟩:∃ g Sz,fv=.slice (some ⟨g,0,none⟩) 5 Sz∧w.heap.size+4≤g∧∀ j u,(jZ [b0,b1,b2,b3,b4])[j]?=some u→V2.cell? ⟨g,j,none⟩=some u:=by
     have h2:=Ur.2;rcases h2 with ⟨_,hn⟩ | ⟨g,Sz,cur,hv,hbs,hg,rest⟩
     ·simp at hn
     ·refine ⟨g,Sz,hv,hbs,fun j u hu=>?_⟩
      have:=Ur.cells (g:=g) (by rw [hv];rfl) j u hu;rwa [Addr.add_mid,Nat.zero_add] at this
    have hgx:=HFX.out g rfl;have hgk:=fun (j:Nat) (u:Value) (hu:(jZ [b0,b1,b2,b3,b4])[j]?=some u)=>hF.kept (pp j u hu) (jo (k:=g) (by omega) (by omega));have p0:=hgk 0 _ rfl;have p1:=hgk 1 _ rfl;have p2:=hgk 2 _ rfl;have p3:=hgk 3 _ rfl;have p4:=hgk 4 _ rfl;have HV2:=Lib.hid (HV.out.trans (if_neg (by simp)));have hset:∀ (W:World) (o j:Nat) (v:Value),(W.setCell ⟨w.heap.size+3,o,none⟩ v).cell? ⟨g,j,none⟩=W.cell? ⟨g,j,none⟩:=fun W o j v=>World.cell?_setCell_other _ _ _ _ (fun e=>by simp only [Addr.mk.injEq] at e;omega);have HE0:=Lib.hid hre;clear hre HV H5 HFI H34 Ur HFX pp hgk;have e11:=hE.cell 11 _ rfl;have e12:=hE.cell 12 _ rfl;have e13:=hE.cell 13 _ rfl;have e14:=hE.cell 14 _ rfl;rw [Nat.zero_add] at e11 e12 e13 e14;have z11:=hE.free 11;have z12:=hE.free 12;have z13:=hE.free 13;have z14:=hE.free 14;go_upto_region 19 with fail
    refine au (fun U1 hU1=>?_);have hk:∀ q,q≠w.heap.size+3→U1.heap[q]?=U.heap[q]?:=fun q hq=>by
     rw [hU1.out];exact (heap_setCell_other _ _ _ _ (fun h=>hq h.symm)).trans ((heap_setCell_other _ _ _ _ (fun h=>hq h.symm)).trans ((heap_setCell_other _ _ _ _ (fun h=>hq h.symm)).trans (heap_setCell_other _ _ _ _ (fun h=>hq h.symm))))
    have hE1:EvBlk U1 (w.heap.size+3) (⟨d,s,2,dC,⟨ByteArray.empty,b1,b2,b3,b4,0,0,0⟩,l⟩:Ev) ad kX:=by rw [hU1.out];exact (((hE.set11 b1).set12 b2).set13 b3).set14 b4
    have Qg:Below w.heap.size w U1:=by rw [hU1.out];exact (((hbt.setCell (by simp only;omega) _).setCell (by simp only;omega) _).setCell (by simp only;omega) _).setCell (by simp only;omega) _
    have hX1:RdBlk U1 w4.heap.size ro ax cx:=(hk _ (by omega)).trans hX;have hZ1:=(hk _ (by omega)).trans hZ;have hD1:EvBlk U1 (w.heap.size+2) ev0 none 0:=(hk _ (by omega)).trans hD;have hd1:DotsIn U1 ad l:=hd.keep (fun A off h _=>hk _ (by have:=hdz A off h;omega));have p0':U1.cell? ⟨g,0,none⟩=some (.bool b0):=(World.cell?_of_block (hk _ (by simp only;omega))).trans p0;clear hU1 hk hE hbt hX hZ hD hd p0 p1 p2 p3 p4 hset e11 e12 e13 e14 z11 z12 z13 z14 x0 x1 xf0 xf1 hF;have hbt:=Qg;have hX:=hX1;have hZ:=hZ1;have hD:=hD1;clear Qg hX1 hZ1 hD1
    cases b0 with
    | false =>
      obtain ⟨ev,hev⟩:∃ ev:Ev,ev=⟨d,s,2,dC,⟨ByteArray.empty,b1,b2,b3,b4,0,0,0⟩,l⟩:=⟨_,rfl⟩;have HX:Hid (tX r=(ro,ev)):=by rw [Hid,HV2.out,if_neg (by simp [iQ]),hev];rfl
      have hE:EvBlk U1 (w.heap.size+3) ev ad kX:=by rw [hev];exact hE1
      have hd:DotsIn U1 ad ev.over:=by rw [hev];exact hd1
      have hsm:EvSmall ev:=by rw [hev];exact ⟨Nat.zero_le _,Nat.zero_le _,Nat.zero_le _,Nat.zero_le _,by simp only;omega⟩
      clear hE1 hd1 hev HV2;go_wp2;go_meet;exact ⟨ro,ev,ax,cx,ad,kX,fun h=>absurd HE0.out h,fun _=>HX.out,hX,Ko,hcx,hE,hd,hdz,hsm,hZ,hD,hbt⟩
    | true =>
      have e6:=hE1.cell 6 _ rfl;rw [Nat.zero_add] at e6;have z6:=hE1.free 6;go_upto_region 21 with fail
      refine au (fun U2 hU2=>?_);obtain ⟨ek,hek⟩:∃ ek:Ev,ek=⟨d,s,1,dC,⟨ByteArray.empty,b1,b2,b3,b4,0,0,0⟩,l⟩:=⟨_,rfl⟩;have hk:∀ q,q≠w.heap.size+3→U2.heap[q]?=U1.heap[q]?:=fun q hq=>by rw [hU2.out];exact heap_setCell_other _ _ _ _ (fun h=>hq h.symm)
      have hE:EvBlk U2 (w.heap.size+3) ek ad kX:=by rw [hU2.out,hek];exact hE1.set6 1
      have o7:Below w.heap.size w U2:=by rw [hU2.out];exact hbt.setCell (by simp only;omega) _
      have hX2:RdBlk U2 w4.heap.size ro ax cx:=(hk _ (by omega)).trans hX;have hZ2:=(hk _ (by omega)).trans hZ;have hD2:EvBlk U2 (w.heap.size+2) ev0 none 0:=(hk _ (by omega)).trans hD;have hd2:DotsIn U2 ad l:=hd1.keep (fun A off h _=>hk _ (by have:=hdz A off h;omega));have hfi:=DJ ro;have HI0:=fun (W:World) (h:Below w0.heap.size w0 W)=>Nh ro ax cx ek ad kX w0 W h WN hcx Ko;have t1:=bV 256 ro;have t2:=bV 256 (aN 256 ro).1;have t3:=bV 256 (aN 256 (aN 256 ro).1).1;have t4:=bV 1024 (aN 256 (aN 256 (aN 256 ro).1).1).1;have Vf:EvSmall (bY ek ro):=⟨by show (aN 256 ro).2.length≤_;omega,by show (aN 256 (aN 256 ro).1).2.length≤_;omega,by show (aN 256 (aN 256 (aN 256 ro).1).1).2.length≤_;omega,by show (aN 1024 (aN 256 (aN 256 (aN 256 ro).1).1).1).2.length≤_;omega,by rw [hek];show l.length≤_;omega⟩;have hov:(bY ek ro).over=l:=by rw [hek];rfl
      have HX0:tX r=(fU ro,bY ek ro):=by rw [HV2.out,if_pos (by simp [iQ]),hek];rfl
      obtain ⟨ri,hri⟩:∃ ri,ri=fU ro:=⟨_,rfl⟩;obtain ⟨ei,hei⟩:∃ ei,ei=bY ek ro:=⟨_,rfl⟩;rw [← hri,← hei] at HI0 HX0;rw [← hei] at Vf hov;have HX:=Lib.hid HX0;have HIt:=Lib.hid HI0;have h0U:=h0.trans (o7.mono hw0);clear hU2 hk hE1 hbt hX hZ hD hd1 e6 z6 p0' HI0 HX0 t1 t2 t3 t4 hei hri hek hfi HV2;have hrg:=hX2.range;have hrc:=hE.cell;go_upto_region 22 with (first
           | ((with_reducible refine ah 66 _ w4.heap.size 0 [.slice ax ro.b.length cx,.int .i64 ro.e] (bn ro ax cx) rfl _ underlying66 rfl (by kernel_rfl) hrg ?_ rfl ?_);exact rfl)
           | ((with_reducible refine bu _ (w.heap.size+3) ek ad kX hrc ?_ rfl ?_);exact rfl)
           | (go_at_call 108;(with_reducible refine (HIt.out _ h0U).mono ?_);rintro x w6 ⟨a6,c6,rfl,Qd,hc6,hb6⟩)
           | (refine dI 66 _ _ _ #[.slice a6 ri.b.length c6,.int .i64 ri.e] _ rfl rfl (by kernel_rfl) rfl (by kernel_rfl) ?_)
           | (refine cu 127 _ _ _ (ag ei ad kX).toArray (w6.heap.size+1) (by simp) rfl rfl (by kernel_rfl) rfl (by kernel_rfl) ?_))
      refine au (fun U3 hU3=>?_);have hN:RdBlk U3 w6.heap.size ri a6 c6:=by rw [hU3.out];exact RdBlk.new2 w6 ri a6 c6 _
      have hS:EvBlk U3 (w6.heap.size+1) ei ad kX:=by rw [hU3.out];exact StBlk.new2 w6 _ _ _
      have hb3:Below U2.heap.size U2 U3:=by rw [hU3.out];exact (hb6.alloc hb6.size _).alloc (Nat.le_trans hb6.size (by simp)) _
      have hz6:=hb6.size;have hX3:=hX2.below hb3;have hE3:=hE.below hb3;have hZ3:=(hb3.block _ (lt_of_block hZ2)).trans hZ2;have hD3:=hD2.below hb3;have hd3:=hd2.kept hb3;have Ry:=below2 o7 hb3;have hXl:=hX2.lt;have hEl:=hE.lt;clear hU3 hb6 hb3 hX2 hE hZ2 hD2 hd2 o7 hrg hrc;have hrN:=hN.range;have hrS:=hS.cell;have hES:∀ cs:Array Value,EvBlk (U3.setRow w4.heap.size cs) (w.heap.size+3) ek ad kX:=fun cs=>(aI _ _ _ _ (by omega)).trans hE3;have WO:∀ cs:Array Value,(U3.setRow w4.heap.size cs).rangeAt (w6.heap.size+1) 0 (ag ei ad kX):=fun cs j v hv=>(World.cell?_of_block (aI _ _ _ _ (by simp only;omega))).trans (hrS j v hv);go_wp2_with (first
           | ((with_reducible refine ah 66 _ w6.heap.size 0 [.slice a6 ri.b.length c6,.int .i64 ri.e] (bn ri a6 c6) rfl _ underlying66 rfl (by kernel_rfl) hrN ?_ rfl ?_);exact rfl)
           | (refine wpList_store_row rfl 66 _ _ rfl w4.heap.size #[.slice a6 ri.b.length c6,.int .i64 ri.e] rfl rfl 66 (dL ro ax cx) hX3 (by kernel_rfl) rfl (by kernel_rfl) ?_)
           | ((with_reducible refine bu _ (w6.heap.size+1) ei ad kX (WO _) ?_ rfl ?_);exact rfl)
           | (refine wpList_store_row rfl 127 _ _ rfl (w.heap.size+3) (ag ei ad kX).toArray rfl rfl 127 (ag ek ad kX).toArray (hES _) (by kernel_rfl) rfl (by kernel_rfl) ?_))
      go_meet;refine ⟨ri,ei,a6,c6,ad,kX,fun h=>sJ HX.out h,fun _=>HX.out,?_,Qd,hc6,?_,?_,hdz,Vf,?_,?_,below_setRow (below_setRow Ry (by omega) _) (by omega) _⟩
      ·exact (aI _ _ _ _ (by omega)).trans (setRow_heap _ _ _ _ _ _ hX3)
      ·exact setRow_heap _ _ _ _ _ _ (hES _)
      ·rw [hov];exact (hd3.setRow _ (fun A off h=>by have:=hdz A off h;omega)).setRow _ (fun A off h=>by have:=hdz A off h;omega)
      ·exact (aI _ _ _ _ (by omega)).trans ((aI _ _ _ _ (by omega)).trans hZ3)
      ·exact (aI _ _ _ _ (by omega)).trans ((aI _ _ _ _ (by omega)).trans hD3)
   ·have q1:(ro.e == 0)=false:=beq_eq_false_iff_ne.2 hre
    have q2:(ro.e != 0)=true:=by rw [bne_iff_ne];exact hre
    have HE:Hid (rEv r=(ro,ev0)):=by
     have h:=HV.out;split at h
     ·exact sJ h hre
     ·split at h
      ·rw [Nr hre] at h;exact sJ h hre
      ·exact sJ h hre
    have HRE:=Lib.hid hre;clear hre HV H5 HFI H34;go_wp2;go_meet;exact ⟨ro,_,ax,cx,ad,kX,fun _=>HE.out,fun h=>absurd h HRE.out,hX,Ko,hcx,hE,hd,hdz,⟨Nat.zero_le _,Nat.zero_le _,Nat.zero_le _,Nat.zero_le _,by simp only;omega⟩,hZ,hD,hbt⟩
  case rest =>
   obtain ⟨rx,ev,ax,cx,ad,kX,SN,HGO,hX,Ko,hcx,hE,hd,hdz,hsm,hZ,hD,hbt⟩:=hcut;obtain ⟨U,hUe⟩:∃ U,U=wc:=⟨_,rfl⟩;subst hUe;clear HV H5 HFI H34;by_cases hre:rx.e=0
   ·have HX:=HGO hre
    have q1:(rx.e == 0)=true:=beq_iff_eq.2 hre;have q2:(rx.e != 0)=false:=by rw [bne_eq_false_iff_eq];exact hre
    cases hok:eF ev with
    | true =>
      have HE:=Lib.hid (xn HX hre hok);clear HX SN HGO hre;have hRt:=Lib.hid (fun (W:World) (h:DotsIn W ad ev.over)=>lY ev ad kX W hsm h);have hrc:=hE.cell;obtain ⟨p0,p1,zf0,zf1⟩:=hX.two;rw [hok] at hRt;go_upto_region 28 with (first
           | ((with_reducible refine bu _ (w.heap.size+3) ev ad kX hrc ?_ rfl ?_);exact rfl)
           | (go_at_call 109;(with_reducible refine (hRt.out _ hd).mono ?_);rintro x w9 ⟨rfl,hb9⟩;obtain ⟨y0,y1,yf0,yf1⟩:=(hX.below hb9).two))
      clear y0 y1 yf0 yf1;replace hE:=hE.below hb9;replace hX:=hX.below hb9;replace hZ:=(hb9.block _ (lt_of_block hZ)).trans hZ;replace hD:=hD.below hb9;replace hd:=hd.kept hb9;replace hbt:=below2 hbt hb9;clear hb9 hrc p0 p1 zf0 zf1;have hother:∀ (W':World) (g:Nat) (cs:Array Value) (b:Nat) (l:List Value),g≠b→W'.rangeAt b 0 l→(W'.setRow g cs).rangeAt b 0 l:=fun W' g cs b l hne h j v hv=>(World.cell?_of_block (aI _ _ _ _ (by simpa using hne))).trans (h j v hv);have hD4:∀ cs:Array Value,(w9.drew.setRow (w.heap.size+1) cs).heap[w.heap.size+2]?=some (.cells (ag ev0 none 0).toArray 127 (0,0)):=fun cs=>(aI _ _ _ _ (by omega)).trans hD;refine wp_region_noPanic ?_;refine wp_region_held_drew (S:=fun W'=>W'.rangeAt (w.heap.size+3) 0 (ag ev ad kX)∧W'.rangeAt w4.heap.size 0 [.slice ax rx.b.length cx,.int .i64 rx.e]) (by kernel_rfl) ⟨hE.cell,hX.range⟩ (fun hHeld=>?_);refine tH 0 114 rfl (yieldsIf_load_mid (by rfl) 66 _ rfl w4.heap.size 0 rfl [.slice ax rx.b.length cx,.int .i64 rx.e] _ (fun _ h=>h.2) underlying66 rfl (by kernel_rfl)) ?_;try simp only [pS]
      refine tH 1 115 rfl (yieldsIf_load_mid (by rfl) 127 _ rfl (w.heap.size+3) 0 rfl (ag ev ad kX) _ (fun _ h=>h.1) underlying127 rfl (by kernel_rfl)) ?_;try simp only [pS]
      refine wpAnyH_ready (rs:=[2]) (by kernel_rfl) (by simp) ?_;refine AllReadyH.cons rfl (fun K hK=>?_) AllReadyH.nil;refine dY rfl 66 _ _ rfl (w.heap.size+1) #[.slice ax rx.b.length cx,.int .i64 rx.e] rfl rfl 66 bQ hZ (by kernel_rfl) rfl (by kernel_rfl) ?_;refine hK.out _ _ ?_ (fun hHeld=>?_)
      ·exact ⟨hother _ _ _ _ _ (by omega) hE.cell,hother _ _ _ _ _ (by omega) hX.range⟩
      clear hK K;try simp only [pS]
      refine wpAnyH_ready (rs:=[3]) (by kernel_rfl) (by simp) ?_;refine AllReadyH.cons rfl (fun K hK=>?_) AllReadyH.nil;refine dY rfl 127 _ _ rfl (w.heap.size+2) (ag ev ad kX).toArray rfl rfl 127 (ag ev0 none 0).toArray (hD4 _) (by kernel_rfl) rfl (by kernel_rfl) ?_;refine hK.out _ _ ?_ (fun hHeld=>?_)
      ·exact ⟨hother _ _ _ _ _ (by omega) (hother _ _ _ _ _ (by omega) hE.cell),hother _ _ _ _ _ (by omega) (hother _ _ _ _ _ (by omega) hX.range)⟩
      clear hK K;try simp only [pS]
      refine wpAnyH_done (by kernel_rfl) ?_ _;refine NoPanic.normal ?_;go_wp2;have hrows:=gy (w:=w9.drew) #[.slice ax rx.b.length cx,.int .i64 rx.e] (ag ev ad kX).toArray (show w.heap.size+1≠w.heap.size+2 by omega) hZ hD;refine gI 2 3 66 127 66 127 (w.heap.size+1) (w.heap.size+2) _ (ag ev ad kX).toArray _ _ rfl rfl rfl hrows.1 hrows.2 underlying66 rfl (by kernel_rfl) underlying127 rfl (by kernel_rfl) rfl ?_;unfold wS;rw [HE.out];exact ⟨ax,cx,ad,kX,rfl,Ko,hcx,DotsIn.setRow (DotsIn.setRow (w:=w9.drew) (hd.kept (Below.refl _ _).drew) _ (fun A off h=>by have:=hdz A off h;omega)) _ (fun A off h=>by have:=hdz A off h;omega),below_setRow (below_setRow hbt.drew (by omega) _) (by omega) _,fun A off h=>by have:=hdz A off h;omega⟩
    | false =>
      have HE:=Lib.hid (sK HX hre hok);clear HX SN HGO hre;have hRt:=Lib.hid (fun (W:World) (h:DotsIn W ad ev.over)=>lY ev ad kX W hsm h);have hrc:=hE.cell;obtain ⟨p0,p1,zf0,zf1⟩:=hX.two;rw [hok] at hRt;go_upto_region 26 with (first
           | ((with_reducible refine bu _ (w.heap.size+3) ev ad kX hrc ?_ rfl ?_);exact rfl)
           | (go_at_call 109;(with_reducible refine (hRt.out _ hd).mono ?_);rintro x w9 ⟨rfl,hb9⟩;obtain ⟨y0,y1,yf0,yf1⟩:=(hX.below hb9).two))
      clear y0 y1 yf0 yf1;refine au (fun U2 hU2=>?_);have hE':=hE.below hb9;have hX':=hX.below hb9;have hk9:∀ q,q≠w4.heap.size→U2.heap[q]?=w9.heap[q]?:=fun q hq=>by rw [hU2.out];exact heap_setCell_other _ _ _ _ (fun e=>hq e.symm)
      have hX2:RdBlk U2 w4.heap.size ⟨rx.b,1⟩ ax cx:=by rw [hU2.out];exact pJ hX' _
      have VH:Below w.heap.size w U2:=by rw [hU2.out];exact (below2 hbt hb9).setCell (by simp only;omega) _
      have hZ2:=(hk9 _ (by omega)).trans ((hb9.block _ (lt_of_block hZ)).trans hZ);have hD2:EvBlk U2 (w.heap.size+2) ev0 none 0:=(hk9 _ (by omega)).trans (hD.below hb9);clear hU2 hE hE' hX hX' hk9 hZ hD hbt hb9 hrc p0 p1 zf0 zf1 hd;have hX:=hX2;have hZ:=hZ2;have hD:=hD2;have hbt:=VH;clear hX2 hZ2 hD2 VH;obtain ⟨U,hUe⟩:∃ U,U=U2:=⟨_,rfl⟩;subst hUe;have q5:((1:Int) != 0)=true:=rfl;have hDz:∀ cs:Array Value,(U.setRow (w.heap.size+1) cs).heap[w.heap.size+2]?=some (.cells (ag ev0 none 0).toArray 127 (0,0)):=fun cs=>(aI _ _ _ _ (by omega)).trans hD;obtain ⟨p0,p1,zf0,zf1⟩:=hX.two;have hrg:=hX.range;go_wp2_with (first
           | ((with_reducible refine ah 66 _ w4.heap.size 0 [.slice ax (⟨rx.b,1⟩:Rd).b.length cx,.int .i64 (⟨rx.b,1⟩:Rd).e] (bn (⟨rx.b,1⟩:Rd) ax cx) rfl _ underlying66 rfl (by kernel_rfl) hrg ?_ rfl ?_);exact rfl)
           | (refine Great.wpList_buildTo rfl 127 _ rfl _ rfl (ag ev0 none 0).toArray (by kernel_rfl) ?_)
           | (refine wpList_store_row rfl 66 _ _ rfl (w.heap.size+1) #[.slice ax (⟨rx.b,1⟩:Rd).b.length cx,.int .i64 (⟨rx.b,1⟩:Rd).e] rfl rfl 66 bQ hZ (by kernel_rfl) rfl (by kernel_rfl) ?_)
           | (refine wpList_store_row rfl 127 _ _ rfl (w.heap.size+2) (ag ev0 none 0).toArray rfl rfl 127 (ag ev0 none 0).toArray (hDz _) (by kernel_rfl) rfl (by kernel_rfl) ?_))
      have hrows:=gy (w:=U) #[.slice ax (⟨rx.b,1⟩:Rd).b.length cx,.int .i64 (⟨rx.b,1⟩:Rd).e] (ag ev0 none 0).toArray (show w.heap.size+1≠w.heap.size+2 by omega) hZ hD;refine gI 2 3 66 127 66 127 (w.heap.size+1) (w.heap.size+2) _ (ag ev0 none 0).toArray _ _ rfl rfl rfl hrows.1 hrows.2 underlying66 rfl (by kernel_rfl) underlying127 rfl (by kernel_rfl) rfl ?_;unfold wS;rw [HE.out];exact ⟨ax,cx,none,0,rfl,Ko,hcx,Or.inl rfl,below_setRow (below_setRow hbt (by omega) _) (by omega) _,fun A off h=>by cases h⟩
   ·have q1:(rx.e == 0)=false:=beq_eq_false_iff_ne.2 hre
    have q2:(rx.e != 0)=true:=by rw [bne_iff_ne];exact hre
    have HE:=Lib.hid (SN hre);clear SN HGO hre;have hDz:∀ cs:Array Value,(U.setRow (w.heap.size+1) cs).heap[w.heap.size+2]?=some (.cells (ag ev0 none 0).toArray 127 (0,0)):=fun cs=>(aI _ _ _ _ (by omega)).trans hD;obtain ⟨p0,p1,zf0,zf1⟩:=hX.two;have hrg:=hX.range;go_wp2_with (first
     | ((with_reducible refine ah 66 _ w4.heap.size 0 [.slice ax rx.b.length cx,.int .i64 rx.e] (bn rx ax cx) rfl _ underlying66 rfl (by kernel_rfl) hrg ?_ rfl ?_);exact rfl)
     | (refine Great.wpList_buildTo rfl 127 _ rfl _ rfl (ag ev0 none 0).toArray (by kernel_rfl) ?_)
     | (refine wpList_store_row rfl 66 _ _ rfl (w.heap.size+1) #[.slice ax rx.b.length cx,.int .i64 rx.e] rfl rfl 66 bQ hZ (by kernel_rfl) rfl (by kernel_rfl) ?_)
     | (refine wpList_store_row rfl 127 _ _ rfl (w.heap.size+2) (ag ev0 none 0).toArray rfl rfl 127 (ag ev0 none 0).toArray (hDz _) (by kernel_rfl) rfl (by kernel_rfl) ?_))
    have hrows:=gy (w:=U) #[.slice ax rx.b.length cx,.int .i64 rx.e] (ag ev0 none 0).toArray (show w.heap.size+1≠w.heap.size+2 by omega) hZ hD;refine gI 2 3 66 127 66 127 (w.heap.size+1) (w.heap.size+2) _ (ag ev0 none 0).toArray _ _ rfl rfl rfl hrows.1 hrows.2 underlying66 rfl (by kernel_rfl) underlying127 rfl (by kernel_rfl) rfl ?_;unfold wS;rw [HE.out];exact ⟨ax,cx,none,0,rfl,Ko,hcx,Or.inl rfl,below_setRow (below_setRow hbt (by omega) _) (by omega) _,fun A off h=>by cases h⟩
end Go.Proofs.YtepkclldbkhanaaGreat
