/- The reference's canon: Load. Conditions: at most 2^20 bytes. -/
import Derived.Test.YtepkclldbkhanaaGreatRRdE
import Derived.Test.YtepkclldbkhanaaGreatCanL
import Derived.Test.YtepkclldbkhanaaGreatRefR
import Derived.Test.YtepkclldbkhanaaGreatRRdF
set_option linter.unusedSimpArgs false
set_option linter.unusedVariables false
set_option linter.unnecessarySimpa false
set_option maxHeartbeats 16000000
set_option maxRecDepth 100000
open Go.Proofs.Tryz
namespace Go.Proofs.YtepkclldbkhanaaGreat
open Go.RowKit
/-- block M holds a map -/
def MpB (w:World) (M:Nat) (v0 v1 v2:Value):Prop:=w.heap[M]?=some (.cells #[v0,v1,v2] 36 (0,0))
theorem MpB.lt {w:World} {M:Nat} {v0 v1 v2:Value} (h:MpB w M v0 v1 v2):M<w.heap.size:=lt_of_block h
theorem MpB.below {w w':World} {M:Nat} {v0 v1 v2:Value} (h:MpB w M v0 v1 v2) (hb:Below w.heap.size w w'):MpB w' M v0 v1 v2:=(hb.block _ h.lt).trans h
theorem MpB.grown {w w':World} {M:Nat} {v0 v1 v2:Value} {g:Option Nat} (h:MpB w M v0 v1 v2) (hg:w.grownBy w' g) (hne:some M≠g):MpB w' M v0 v1 v2:=(hg.block M h.lt hne).trans h
theorem MpB.cells {w:World} {M:Nat} {v0 v1 v2:Value} (h:MpB w M v0 v1 v2):w.cell? ⟨M,0,none⟩=some v0∧w.cell? ⟨M,1,none⟩=some v1∧w.cell? ⟨M,2,none⟩=some v2:=by
 simp [World.cell?,show w.heap[M]?=_ from h]
theorem MpB.free {w:World} {M:Nat} {v0 v1 v2:Value} (h:MpB w M v0 v1 v2) (o:Nat):w.frozen? ⟨M,o,none⟩=false:=by
 simp [World.frozen?,show w.heap[M]?=_ from h]
theorem z142 {p : Prop} (h : p := by simp [MpB, World.setCell, Array.getElem?_modify, show w.heap[M]? = _ from h]) : p := h
theorem MpB.set0 {w:World} {M:Nat} {v0 v1 v2:Value} (h:MpB w M v0 v1 v2) (v:Value):MpB (w.setCell ⟨M,0,none⟩ v) M v v1 v2:=by
 exact z142
theorem MpB.set1 {w:World} {M:Nat} {v0 v1 v2:Value} (h:MpB w M v0 v1 v2) (v:Value):MpB (w.setCell ⟨M,1,none⟩ v) M v0 v v2:=by
 exact z142
theorem MpB.set2 {w:World} {M:Nat} {v0 v1 v2:Value} (h:MpB w M v0 v1 v2) (v:Value):MpB (w.setCell ⟨M,2,none⟩ v) M v0 v1 v:=by
 exact z142
theorem MpB.range {w:World} {M:Nat} {v0 v1 v2:Value} (h:MpB w M v0 v1 v2):w.rangeAt M 0 [v0,v1,v2]:=fun j v hv=>by
 rw [Nat.zero_add];have h':w.heap[M]?=some (.cells #[v0,v1,v2] 36 (0,0)):=h;simp only [World.cell?,h'];simpa using hv
/-- dots, events, in blocks of P alone -/
def DtP (P:Nat→Prop) (w:World) (a:Option Addr) (l:List Dot):Prop:=DotsIn w a l∧∀ A off,a=some ⟨A,off,none⟩→l≠[]→P A
structure EvP (P:Nat→Prop) (w:World) (a:Option Addr) (ls:List bH):Prop where
 evs:EvsIn w a ls
 row:∀ A off,a=some ⟨A,off,none⟩→ls≠[]→P A
 over:∀ x∈ls,∀ A off,x.2.1=some ⟨A,off,none⟩→x.1.over≠[]→P A
theorem DtP.keep {P Q:Nat→Prop} {w w':World} {a:Option Addr} {l:List Dot} (h:DtP P w a l) (hk:∀ A,P A→A<w.heap.size→w'.heap[A]?=w.heap[A]?∧Q A):DtP Q w' a l:=by
 have key:∀ A off,a=some ⟨A,off,none⟩→l≠[]→w'.heap[A]?=w.heap[A]?∧Q A:=fun A off hA hne=>hk A (h.2 A off hA hne) (by have:=h.1;rw [hA] at this;exact jK this hne);exact ⟨h.1.keep (fun A off hA hne=>(key A off hA hne).1),fun A off hA hne=>(key A off hA hne).2⟩
theorem EvP.keep {P Q:Nat→Prop} {w w':World} {a:Option Addr} {ls:List bH} (h:EvP P w a ls) (hk:∀ A,P A→A<w.heap.size→w'.heap[A]?=w.heap[A]?∧Q A):EvP Q w' a ls:=by
 have key:∀ x∈ls,∀ A off,x.2.1=some ⟨A,off,none⟩→x.1.over≠[]→w'.heap[A]?=w.heap[A]?∧Q A:=fun x hx A off hA hne=>hk A (h.over x hx A off hA hne) (by have:=h.evs.dots x hx;rw [hA] at this;exact jK this hne);have UX:∀ A off,a=some ⟨A,off,none⟩→ls≠[]→w'.heap[A]?=w.heap[A]?∧Q A:=by
  intro A off hA hne;refine hk A (h.row A off hA hne) ?_;rcases h.evs.rows with h0 | ⟨A',off',hA',hr⟩
  ·exact absurd h0 hne
  ·rw [hA] at hA'
   cases hA'
   exact World.block_lt_of_cell? w _ (hr 0 (List.length_pos_iff.2 hne) 0 _ rfl)
 refine ⟨⟨?_,fun x hx=>(h.evs.dots x hx).keep (fun A off hA hne=>(key x hx A off hA hne).1)⟩,fun A off hA hne=>(UX A off hA hne).2,fun x hx A off hA hne=>(key x hx A off hA hne).2⟩;rcases h.evs.rows with h0 | ⟨A,off,hA,hr⟩
 ·exact Or.inl h0
 ·by_cases hne:ls=[]
  ·exact Or.inl hne
  ·exact Or.inr ⟨A,off,hA,fun i hi j v hv=>(World.cell?_of_block (UX A off hA hne).1).trans (hr i hi j v hv)⟩
/-- events of one's own, ahead of w0 nothing -/
theorem EvsOwn.evp {S:Nat→Prop} {w0 w:World} {a:Option Addr} {c:Nat} {ls:List bH} (h:EvsOwn S w0 (.slice a ls.length c) ls w):EvP (fun A=>w0.heap.size≤A) w a ls:=by
 obtain ⟨a',c',hv,hin⟩:=kK h.own h.dots
 cases hv
 refine ⟨hin,fun A off h1 h2=>?_,fun x hx A off h1 h2=>(h.ne x hx A off h1 h2).1⟩;rcases h.own.2 with ⟨_,hn⟩ | ⟨g,cap,cur,hv,hg,_⟩
 ·exact absurd (List.length_eq_zero_iff.1 hn) h2
 ·simp only [Value.slice.injEq] at hv
  rw [h1] at hv;have:A=g:=by have h5:=hv.1;simp at h5;exact h5.1
  omega
/-- a map's parts lie from lo on -/
structure RMLow (lo:Nat) (y:RMIt):Prop where
 ctx:∀ A off,y.ac=some ⟨A,off,none⟩→y.ctx≠[]→lo≤A
 row:∀ A off,y.aK=some ⟨A,off,none⟩→y.K≠[]→lo≤A
 over:∀ x∈y.K,∀ A off,x.2.1=some ⟨A,off,none⟩→x.1.over≠[]→lo≤A
 dead:∀ A off,y.ad=some ⟨A,off,none⟩→y.dead≠[]→lo≤A
theorem RMIn.cellAt {w w':World} {y:RMIt} {lo X:Nat} (h:RMIn w y) (hl:RMLow lo y) (hX:X<lo) (hk:∀ q,q≠X→w'.heap[q]?=w.heap[q]?):RMIn w' y:=by
 have g:=fun A (hA:lo≤A) (_:A<w.heap.size)=>(⟨hk A (by omega),trivial⟩:w'.heap[A]?=w.heap[A]?∧True);exact ⟨(DtP.keep (Q:=fun _=>True) (⟨h.ctx,hl.ctx⟩:DtP (fun A=>lo≤A) w y.ac y.ctx) g).1,(EvP.keep (Q:=fun _=>True) (⟨h.kept,hl.row,hl.over⟩:EvP (fun A=>lo≤A) w y.aK y.K) g).evs,(DtP.keep (Q:=fun _=>True) (⟨h.dead,hl.dead⟩:DtP (fun A=>lo≤A) w y.ad y.dead) g).1,h.4,h.5,h.6⟩
def QH (r:Rd) (c:List Dot) (K:List Ev) (d:List Dot) (w:World) (x:Ending) (w':World):Prop :=
 ∃ y e,x=.returned (.tuple #[qV y,.int .i64 e])∧e=(if eX r=0 then gu c K d else eX r)∧RMIn w' y∧fA y.K∧Below w.heap.size w w'∧(e=0→y.ctx=c∧aU y.K=K∧y.dead=d)∧RMLow w.heap.size y
theorem Nb:fA rm0.K:=fun x hx=>(nomatch hx)
theorem z115 {p : Prop} (h : p := by
 clear hgo
 go_wp2
 go_meet
 exact HF.out) : p := h
theorem z143 {p : Prop} (h : p := by
 go_wp2
 go_meet
 exact ⟨by rw [HT.out], rfl⟩) : p := h
theorem CU (a:Option Addr) (cap:Nat) (l:Bytes) (w:World) (hl:l.length≤1048576) (hcap:l.length≤cap) (h:BytesIn w a l) {r:Rd} {c:List Dot} {K:List Ev} {d:List Dot} (hx:jL l=(r,c,K,d)) :
 Calls prog 27 #[.slice a l.length cap] w (QH r c K d w):=by
 obtain ⟨i0,hi,hz0,hz1,hz2⟩:=info_parts Tryz.infoEv;obtain ⟨j0,hj,hy0,hy1,hy2⟩:=info_parts Tryz.infoDot;have f1:=Aa ⟨l,0⟩;have f1l:=uz ⟨l,0⟩;have g1:=fun (W:World) (h0:Below w.heap.size w W)=>Ac ⟨l,0⟩ a cap w W h0 (by simp only;omega) hcap h;obtain ⟨r1,mk,h1⟩:∃ x y,fC ⟨l,0⟩=(x,y):=⟨_,_,rfl⟩;unfold CE at g1;simp only [h1] at g1;rw [h1] at f1 f1l;simp only at f1 f1l;have f2:=bf 2048 r1;obtain ⟨r2,N,h2⟩:∃ x y,bg 2048 r1=(x,y):=⟨_,_,rfl⟩;rw [h2] at f2;simp only at f2;have f3:=Ae N r2;obtain ⟨r3,evs,h3⟩:∃ x y,kz N r2=(x,y):=⟨_,_,rfl⟩;rw [h3] at f3;simp only at f3;have f4:=bf 65536 r3;obtain ⟨r4,D,h4⟩:∃ x y,bg 65536 r3=(x,y):=⟨_,_,rfl⟩;rw [h4] at f4;simp only at f4;have f5:=pK D r4;obtain ⟨r5,ds,h5⟩:∃ x y,bT D r4=(x,y):=⟨_,_,rfl⟩;rw [h5] at f5;simp only at f5;have hxx:jL l=(r5,mk,evs,ds):=by unfold jL;simp only [h1,h2,h3,h4,h5]
 rw [hxx] at hx;simp only [Prod.mk.injEq] at hx;obtain ⟨rfl,rfl,rfl,rfl⟩:=hx;have G1:Hid (∀ W,Below w.heap.size w W→Calls prog 60 #[.agg #[.slice a l.length cap,.int .i64 0]] W (fun x w'=>∃ a cap ao co,x=.returned (.tuple #[bn r1 a cap,.slice ao mk.length co])∧BytesIn w a r1.b∧r1.b.length≤cap∧DotsIn w' ao mk∧Below W.heap.size W w'∧(∀ A off,ao=some ⟨A,off,none⟩→W.heap.size≤A)∧mk.length≤co)):=g1;have G2:Hid (∀ (W:World) (a:Option Addr) (cap:Nat),Below w.heap.size w W→r1.b.length≤cap→BytesIn w a r1.b→Calls prog 24 #[bn r1 a cap,.int .u64 2048] W (iI r2 (.int .u64 N) w W)):=fun W a cap h hc hb=>by have:=di r1 a cap 2048 w W h (by omega) hc (by omega) hb;rw [h2] at this;exact this
 have G4:Hid (∀ (W:World) (a:Option Addr) (cap:Nat),Below w.heap.size w W→r3.b.length≤cap→BytesIn w a r3.b→Calls prog 24 #[bn r3 a cap,.int .u64 65536] W (iI r4 (.int .u64 D) w W)):=fun W a cap h hc hb=>by have:=di r3 a cap 65536 w W h (by omega) hc (by omega) hb;rw [h4] at this;exact this
 have H3:=Lib.hid h3;have H5:=Lib.hid h5;have bN:=f2.2;have bD:=f4.2;have l2:r2.b.length≤1048576:=by omega
 have l4:r4.b.length≤1048576:=by omega
 have l3:r3.b.length≤1048576:=by omega
 clear g1 h1 h2 h3 h4 h5 f1 f2 f3 f4 f5 hxx h;go_enter func27,ntmps27;go_upto_region 2 with fail
 refine au (fun W0 hW0=>?_);have hbt:Below w.heap.size w W0:=by rw [hW0.out];go_grown
 have hM:MpB W0 (w.heap.size+1) (.slice none 0 0) (.slice none 0 0) (.slice none 0 0):=by rw [hW0.out];exact qJ _ _ _
 have hZ:MpB W0 w.heap.size (.slice none 0 0) (.slice none 0 0) (.slice none 0 0):=by
  rw [hW0.out];exact (((Below.refl _ _).alloc (Nat.le_refl _) _).block _ (by simp)).trans (dE _ _)
 obtain ⟨B,hBB⟩:∃ B,B=w.heap.size+1:=⟨_,rfl⟩;rw [← hBB] at hM ⊢;have hBg:w.heap.size<B:=by omega
 have hBl:B≤w.heap.size+1:=by omega
 have hlo:=hM.lt;clear hW0 hBB;go_upto_region 3 with (first
  | (go_at_call 60;(with_reducible refine (G1.out _ hbt).mono ?_);rintro x w1 ⟨a1,c1,am,cm,rfl,hin1,hc1,hdm,hb1,hAm,hcm⟩)
  | (refine aB 66 _ _ _ #[.slice a1 r1.b.length c1,.int .i64 r1.e] rfl rfl (by kernel_rfl) rfl (by kernel_rfl) ?_))
 refine au (fun V1 hV=>?_);have hX1:RdBlk V1 w1.heap.size r1 a1 c1:=by rw [hV.out];exact RdBlk.new w1 r1 a1 c1
 have hbv:Below W0.heap.size W0 V1:=by rw [hV.out];exact hb1.alloc hb1.size _
 have hDm:DtP (fun A=>B<A) V1 am mk:=⟨by rw [hV.out];exact hdm.kept ((Below.refl _ _).alloc (Nat.le_refl _) _),fun A off h _=>Nat.lt_of_lt_of_le hlo (hAm A off h)⟩;replace hM:=hM.below hbv;replace hZ:=hZ.below hbv;replace hbt:=below2 hbt hbv;replace hlo:=hM.lt;clear hV hb1 hdm hAm hbv G1;have hrg:=hX1.range;have G2':=Lib.hid (fun W h=>G2.out W a1 c1 h hc1 hin1);clear G2;go_upto_region 4 with (first
  | ((with_reducible refine ah 66 _ w1.heap.size 0 [.slice a1 r1.b.length c1,.int .i64 r1.e] (bn r1 a1 c1) rfl _ underlying66 rfl (by kernel_rfl) hrg ?_ rfl ?_);exact rfl)
  | (go_at_call 24;(with_reducible refine (G2'.out _ hbt).mono ?_);rintro x w2 ⟨a2,c2,rfl,hin2,hc2,hb2⟩)
  | (refine aB 66 _ _ _ #[.slice a2 r2.b.length c2,.int .i64 r2.e] rfl rfl (by kernel_rfl) rfl (by kernel_rfl) ?_))
 refine au (fun V2 hV=>?_);have hX2:RdBlk V2 w2.heap.size r2 a2 c2:=by rw [hV.out];exact RdBlk.new w2 r2 a2 c2
 have hbv:Below V1.heap.size V1 V2:=by rw [hV.out];exact hb2.alloc hb2.size _
 have hx2:B<w2.heap.size:=Nat.lt_of_lt_of_le hlo hb2.size;replace hDm:DtP (fun A=>B<A∧A<w2.heap.size) V2 am mk:=hDm.keep (fun A hA hs=>⟨hbv.block _ hs,hA,Nat.lt_of_lt_of_le hs hb2.size⟩);replace hM:=hM.below hbv;replace hZ:=hZ.below hbv;replace hbt:=below2 hbt hbv;replace hlo:=hM.lt;clear hV hb2 hbv G2' hrg hX1 hin1 hc1;obtain ⟨X,hXX⟩:∃ X,X=w2.heap.size:=⟨_,rfl⟩;rw [← hXX] at hX2 hx2 hDm ⊢;clear hXX;have hXl:=hX2.lt;have hI0:EvsOwn (jq X B) V2 (.slice none 0 0) [] V2:=⟨World.ownsRow_nil _ _ _ _,fun x hx=>by simp at hx,fun x hx=>by simp at hx,Fr.refl _ _⟩;have hww:w.heap.size≤V2.heap.size:=hbt.size;go_upto_block 0 with fail
 go_cut [] (fun wx=>∃ (ar:Option Addr) (cr:Nat) (ls:List bH) (v:Value),aU ls=evs∧ls.length≤2048∧fA ls∧RdBlk wx X r3 ar cr∧BytesIn w ar r3.b∧r3.b.length≤cr∧MpB wx B (.slice none 0 0) v (.slice none 0 0)∧EvsOwn (jq X B) V2 v ls wx)
 case first =>
  go_wp2;go_loopw [9] (fun i wr=>∃ (j m:Nat) (rr:Rd) (ar:Option Addr) (cr:Nat) (ls:List bH) (v:Value),i=.int .u64 j∧j+m=N∧m+ls.length≤2048∧rr.b.length≤1048576∧fA ls∧RdBlk wr X rr ar cr∧BytesIn w ar rr.b∧rr.b.length≤cr∧MpB wr B (.slice none 0 0) v (.slice none 0 0)∧EvsOwn (jq X B) V2 v ls wr∧kz N r2=((kz m rr).1,aU ls++(kz m rr).2)) (fun i _=>N - (intOf i).toNat)
  case atStart=>exact ⟨0,N,r2,a2,c2,[],_,rfl,by omega,by simp;omega,l2,fun x hx=>by simp at hx,hX2,hin2,hc2,hM,hI0,by simp [aU]⟩
  case round =>
   clear hI0 hX2 hM hDm hZ;obtain ⟨j,m,rr,ar,cr,ls,v,rfl,hjm,hmn,hrl,hsm,hX,hinr,hcr,hM,hI,hpre⟩:=hrel;have HP:=Lib.hid hpre;clear hpre;have hzw:=hI.fr.size;by_cases hgo:0<m∧rr.e=0
   ·obtain ⟨hm0,hre⟩:=hgo
    obtain ⟨n2,rfl⟩:∃ n,m=n+1:=⟨m - 1,by omega⟩;have hjk:j<N:=by omega
    have e1:=decide_eq_true hjk;have e2:decide ((j:Int)<(N:Int))=true:=decide_eq_true (by omega);have q1:(rr.e == 0)=true:=beq_iff_eq.2 hre;have hf:=EY rr;have hsv:=DR rr;have HS:Hid (kz N r2=((kz n2 (rEv rr).1).1,(aU ls++[(rEv rr).2])++(kz n2 (rEv rr).1).2)):=by rw [Hid,HP.out,xk hre];simp
    have h0R:Below w.heap.size w wr:=hbt.trans (hI.fr.below hww (fun q hq=>by rcases hq with rfl | rfl <;> omega));have hG0:=fun (U:World) (h:Below w.heap.size w U)=>JL rr ar cr w U h (by omega) hcr hinr;unfold wS at hG0;obtain ⟨rn,ev,hrd⟩:∃ r2 d,rEv rr=(r2,d):=⟨_,_,rfl⟩;rw [hrd] at hf HS hsv;simp only [hrd] at hG0;simp only at hf HS hsv;have HG:=Lib.hid hG0;obtain ⟨p0,p1,pf0,pf1⟩:=hX.two;have hrg:=hX.range;clear hrd hG0 HP hre hm0;go_upto_region 8 with (first
     | ((with_reducible refine ah 66 _ X 0 [.slice ar rr.b.length cr,.int .i64 rr.e] (bn rr ar cr) rfl _ underlying66 rfl (by kernel_rfl) hrg ?_ rfl ?_);exact rfl)
     | (go_at_call 61;(with_reducible refine (HG.out _ h0R).mono ?_);rintro x w7 ⟨a7,c7,ae,ce,rfl,TZ,hc7,hde,hb7,hae⟩)
     | (refine dI 66 _ _ _ #[.slice a7 rn.b.length c7,.int .i64 rn.e] _ rfl rfl (by kernel_rfl) rfl (by kernel_rfl) ?_)
     | (refine cu 127 _ _ _ (ag ev ae ce).toArray (w7.heap.size+1) (by simp) rfl rfl (by kernel_rfl) rfl (by kernel_rfl) ?_))
    refine au (fun U hU=>?_);have hN7:RdBlk U w7.heap.size rn a7 c7:=by rw [hU.out];exact RdBlk.new2 w7 rn a7 c7 _
    have hS7:EvBlk U (w7.heap.size+1) ev ae ce:=by rw [hU.out];exact StBlk.new2 w7 _ _ _
    have VK:Below w7.heap.size w7 U:=by rw [hU.out];exact ((Below.refl _ _).alloc (Nat.le_refl _) _).alloc (by simp) _
    have hbU:Below wr.heap.size wr U:=by rw [hU.out];exact (hb7.alloc hb7.size _).alloc (Nat.le_trans hb7.size (by simp)) _
    have hz7:=hb7.size;have hdU:=hde.kept VK;have hxx:=hI.fresh (p:=ev.over≠[]) hae;have hIU:=hI.step hbU;have hXU:=hX.below hbU;have hMU:=hM.below hbU;clear hU VK hbU hb7 hX hM hI hde hrg p0 p1 pf0 pf1 q1;have hrN:=hN7.range;go_upto_region 9 with (first
     | ((with_reducible refine ah 66 _ w7.heap.size 0 [.slice a7 rn.b.length c7,.int .i64 rn.e] (bn rn a7 c7) rfl _ underlying66 rfl (by kernel_rfl) hrN ?_ rfl ?_);exact rfl)
     | (refine wpList_store_row rfl 66 _ _ rfl X #[.slice a7 rn.b.length c7,.int .i64 rn.e] rfl rfl 66 (dL rr ar cr) hXU (by kernel_rfl) rfl (by kernel_rfl) ?_))
    refine au (fun Y hY=>?_);have hk:∀ q,q≠X→Y.heap[q]?=U.heap[q]?:=fun q hq=>by rw [hY.out];exact aI _ _ _ _ (fun e=>hq e.symm)
    have hXY:RdBlk Y X rn a7 c7:=by rw [hY.out];exact setRow_heap _ _ _ _ _ _ hXU
    have hMY:MpB Y B (.slice none 0 0) v (.slice none 0 0):=(hk _ (by omega)).trans hMU;have hSY:EvBlk Y (w7.heap.size+1) ev ae ce:=(hk _ (by omega)).trans hS7;have hIY:EvsOwn (jq X B) V2 v ls Y:=hIU.other (g:=X) (by omega) hk (by rw [hY.out];exact hIU.fr.setRow (Or.inr (Or.inl rfl)) _);have hdY:DotsIn Y ae ev.over:=hdU.keep (fun A off h _=>hk _ (by have:=hae A off h;omega));have hzY:=hIY.fr.size;clear hY hk hrN hN7 hXU hMU hIU hS7 hdU;have p4:=hMY.cells.2.1;have y4:=hMY.free 1;have hrS:=hSY.cell;have hown:=hIY.own;go_wp2_with (first
     | ((with_reducible refine bu _ (w7.heap.size+1) ev ae ce hrS ?_ rfl ?_);exact rfl)
     | (refine wpList_buildOne rfl 33 127 _ rfl (ag ev ae ce).toArray 19 rfl rfl (by decide) (by decide) underlying33 (by kernel_rfl) (by kernel_rfl) ?_)
     | (at_builtin;go_loud (refine wpList_append_own_at _ rfl _ _ 33 rfl V2.heap.size 127 i0 (.agg (ag ev0 none 0).toArray) 19 176 underlying33 hi hz0 hz1 hz2 rfl (by decide) _ _ _ rfl (hown.alloc _) ⟨Y.heap.size,0,none⟩ 1 1 (ag ev ae ce) rfl rfl (tu Y ev ae ce _) (dR _ _ _) (by unfold maxLen;omega) (by omega) (by simp;omega) ?_)))
    intro v' wf gZ hgrow _ hat;obtain ⟨ad',cap',rfl⟩:=xq gZ;have hal:Below Y.heap.size Y (Y.alloc (Obj.cells (ag ev ae ce).toArray 127)):=(Below.refl _ _).alloc (Nat.le_refl _) _;have hI2:=EvsOwn.app (x:=(ev,ae,ce)) (hIY.step hal) gZ hgrow (by rcases hat with h | h;exact Or.inl h;exact Or.inr (by rw [h];simp)) (hdY.kept hal) hxx;have hlt:=fun (q:Nat) (e:v.ownBlock=some q)=>(hown.lt q e).1;have hXf:RdBlk wf X rn a7 c7:=(hgrow.block _ (by simp;omega) (fun e=>by have:=hlt _ e.symm;omega)).trans (hXY.below hal);have hMf:MpB wf B (.slice none 0 0) v (.slice none 0 0):=(hMY.below hal).grown hgrow (fun e=>by have:=hlt _ e.symm;omega);have p4f:=hMf.cells.2.1;have x4f:=hMf.free 1;have hkf:∀ (u:Value) (q:Nat),q≠B→(wf.setCell ⟨B,1,none⟩ u).heap[q]?=wf.heap[q]?:=fun u q hq=>heap_setCell_other _ _ _ _ (fun e=>hq e.symm);have hI3:=fun (u:Value)=>hI2.other (g:=B) (by omega) (hkf u) (hI2.fr.setCell (p:=⟨B,1,none⟩) (Or.inr (Or.inr rfl)) u);have hX3:=fun (u:Value)=>(hkf u X (by omega)).trans hXf;have hM3:=fun (u:Value)=>hMf.set1 u;have hs2:fA (ls++[(ev,ae,ce)]):=by
     intro x hx;rcases List.mem_append.1 hx with hx | hx
     ·exact hsm x hx
     ·simp only [List.mem_singleton] at hx;subst hx;exact hsv
    have HEV:Hid (aU (ls++[(ev,ae,ce)])=aU ls++[ev]):=by simp [Hid,aU]
    have Ja:=Lib.hid (And.intro hI3 (And.intro hX3 hM3));clear hI2 hXf hMf gZ hgrow hat hIY hXY hMY hSY hdY hrS hown hal hI3 hX3 hM3 hkf hlt p4 y4 hxx;go_wp2;go_roundw
    case rel=>exact ⟨j+1,n2,rn,a7,c7,ls++[(ev,ae,ce)],_,by go_num,by omega,by simp;omega,by omega,hs2,Ja.out.2.1 _,TZ,hc7,Ja.out.2.2 _,Ja.out.1 _,by rw [HEV.out];exact HS.out⟩
    case measure => exact z65
   ·have hend:kz m rr=(rr,[]):=by
     by_cases h0:m=0
     ·subst h0;rfl
     ·exact Af (fun e=>hgo ⟨by omega,e⟩)
    have HQ:Hid (r3=rr∧evs=aU ls):=by
     have h1:=H3.out
     exact z91
    obtain ⟨p0,p1,pf0,pf1⟩:=hX.two;have hls:ls.length≤2048:=by omega
    clear hend HP;have HF:Hid (∃ (ar:Option Addr) (cr:Nat) (ls:List bH) (v:Value),aU ls=evs∧ls.length≤2048∧fA ls∧RdBlk wr X r3 ar cr∧BytesIn w ar r3.b∧r3.b.length≤cr∧MpB wr B (.slice none 0 0) v (.slice none 0 0)∧EvsOwn (jq X B) V2 v ls wr):=by
     have h1:=HQ.out.1;exact ⟨ar,cr,ls,v,HQ.out.2.symm,hls,hsm,by rw [h1];exact hX,by rw [h1];exact hinr,by rw [h1];exact hcr,hM,hI⟩
    by_cases hjk:j<N
    ·have q1:(rr.e == 0)=false:=beq_eq_false_iff_ne.2 (fun e=>hgo ⟨by omega,e⟩)
     have e1:=decide_eq_true hjk;have e2:decide ((j:Int)<(N:Int))=true:=decide_eq_true (by omega)
     exact z115
    ·have e1:=decide_eq_false hjk
     have e2:decide ((j:Int)<(N:Int))=false:=decide_eq_false (by omega)
     exact z115
 case rest =>
  obtain ⟨ar,cr,ls,v,hev,hls,hsm,hX,oG,hc3,hMU,hI⟩:=hcut;obtain ⟨U,hUe⟩:∃ U,U=wc:=⟨_,rfl⟩;subst hUe;obtain ⟨ax,cx,rfl⟩:=xq hI.own;have hcx:=Aw hI.own;have hFr:=hI.fr;have hEv:EvP (fun A=>B<A∧A<U.heap.size∧A≠X) U ax ls:=hI.evp.keep (fun A hA hs=>⟨rfl,by omega,hs,by omega⟩);have hzU:=hFr.size;replace hDm:DtP (fun A=>B<A∧A<U.heap.size∧A≠X) U am mk:=hDm.keep (fun A hA hs=>⟨hFr.block A hs (jo (by omega) (by omega)),by omega,by omega,by omega⟩);have hZU:MpB U w.heap.size (.slice none 0 0) (.slice none 0 0) (.slice none 0 0):=(hFr.block _ hZ.lt (jo (by omega) (by omega))).trans hZ;replace hbt:Below w.heap.size w U:=hbt.trans (hFr.below hww (fun q hq=>by rcases hq with rfl | rfl <;> omega));clear hM hZ hI hFr hI0 hX2 hin2 hc2 H3;have hrg:=hX.range;have hlo:=hMU.lt;have hlc:ls.length≤cx:=hcx;have G4':=Lib.hid (fun W h=>G4.out W ar cr h hc3 oG);clear G4;go_upto_region 11 with (first
   | ((with_reducible refine ah 66 _ X 0 [.slice ar r3.b.length cr,.int .i64 r3.e] (bn r3 ar cr) rfl _ underlying66 rfl (by kernel_rfl) hrg ?_ rfl ?_);exact rfl)
   | (go_at_call 24;(with_reducible refine (G4'.out _ hbt).mono ?_);rintro x w3 ⟨a4,c4,rfl,Dh,hc4,hb4⟩)
   | (refine aB 66 _ _ _ #[.slice a4 r4.b.length c4,.int .i64 r4.e] rfl rfl (by kernel_rfl) rfl (by kernel_rfl) ?_))
  refine au (fun V3 hV=>?_);have hX3:RdBlk V3 w3.heap.size r4 a4 c4:=by rw [hV.out];exact RdBlk.new w3 r4 a4 c4
  have hbv:Below U.heap.size U V3:=by rw [hV.out];exact hb4.alloc hb4.size _
  have hx3:B<w3.heap.size:=Nat.lt_of_lt_of_le hlo hb4.size;replace hEv:EvP (fun A=>B<A∧A<w3.heap.size) V3 ax ls:=hEv.keep (fun A hA hs=>⟨hbv.block _ hs,hA.1,Nat.lt_of_lt_of_le hs hb4.size⟩);replace hDm:DtP (fun A=>B<A∧A<w3.heap.size) V3 am mk:=hDm.keep (fun A hA hs=>⟨hbv.block _ hs,hA.1,Nat.lt_of_lt_of_le hs hb4.size⟩);have hM:=hMU.below hbv;have hZ:=hZU.below hbv;replace hbt:=below2 hbt hbv;replace hlo:=hM.lt;clear hV hb4 hbv G4' hrg hX oG hc3 hMU hZU;obtain ⟨Y3,hYY⟩:∃ Y3,Y3=w3.heap.size:=⟨_,rfl⟩;rw [← hYY] at hX3 hx3 hDm hEv ⊢;clear hYY;have hYl:=hX3.lt;have U9:w.heap.size≤V3.heap.size:=hbt.size;obtain ⟨vK,hvK⟩:∃ vK,vK=Value.slice ax ls.length cx:=⟨_,rfl⟩;rw [← hvK] at hM;clear hww hzU hXl hx2;go_upto_block 2 with fail
  go_cut [] (fun wx=>∃ (ar:Option Addr) (cr:Nat) (v:Value),RdBlk wx Y3 r5 ar cr∧MpB wx B (.slice none 0 0) vK v∧wx.ownsRow V3.heap.size 121 3 v ds.length (aY ds)∧Fr (jq Y3 B) V3 wx∧ds.length≤65536∧r5.b.length≤1048576)
  case first =>
   go_wp2;go_loopw [14] (fun i wr=>∃ (j m:Nat) (dl:List Dot) (rr:Rd) (ar:Option Addr) (cr:Nat) (v:Value),i=.int .u64 j∧j+m=D∧m+dl.length≤65536∧rr.b.length≤1048576∧RdBlk wr Y3 rr ar cr∧BytesIn w ar rr.b∧rr.b.length≤cr∧MpB wr B (.slice none 0 0) vK v∧wr.ownsRow V3.heap.size 121 3 v dl.length (aY dl)∧Fr (jq Y3 B) V3 wr∧bT D r4=((bT m rr).1,dl++(bT m rr).2)) (fun i _=>D - (intOf i).toNat)
   case atStart=>exact ⟨0,D,[],r4,a4,c4,_,rfl,by omega,by simp;omega,l4,hX3,Dh,hc4,hM,World.ownsRow_nil _ _ _ _,Fr.refl _ _,by simp⟩
   case round =>
        clear hX3 hM hDm hEv hZ;obtain ⟨j,m,dl,rr,ar,cr,v,rfl,hjm,hmn,hrl,hX,hinr,hcr,hM,hown,hF,hpre⟩:=hrel;have HP:=Lib.hid hpre;clear hpre;have hzw:=hF.size;by_cases hgo:0<m∧rr.e=0
        ·obtain ⟨hm0,hre⟩:=hgo
         obtain ⟨n,rfl⟩:∃ n,m=n+1:=⟨m - 1,by omega⟩;have hjk:j<D:=by omega
         have e1:=decide_eq_true hjk;have e2:decide ((j:Int)<(D:Int))=true:=decide_eq_true (by omega);have q1:(rr.e == 0)=true:=beq_iff_eq.2 hre;have hf:=jU rr;have HS:Hid (bT D r4=((bT n (eY rr).1).1,(dl++[(eY rr).2])++(bT n (eY rr).1).2)):=by rw [Hid,HP.out,lh hre];simp
         have h0R:Below w.heap.size w wr:=hbt.trans (hF.below U9 (fun q hq=>by rcases hq with rfl | rfl <;> omega));have hG0:=oJ rr;obtain ⟨r2',dd,hrd⟩:∃ r2 dd,eY rr=(r2,dd):=⟨_,_,rfl⟩;rw [hrd] at hf HS hG0;simp only at hf HS hG0;have HG:=Lib.hid (fun (U:World) (h:Below w.heap.size w U)=>hG0 ar cr w U h (by omega) hcr hinr);obtain ⟨p0,p1,pf0,pf1⟩:=hX.two;have hrg:=hX.range;clear hrd hG0 HP hre hm0;go_upto_region 15 with (first
           | ((with_reducible refine ah 66 _ Y3 0 [.slice ar rr.b.length cr,.int .i64 rr.e] (bn rr ar cr) rfl _ underlying66 rfl (by kernel_rfl) hrg ?_ rfl ?_);exact rfl)
           | (go_at_call 62;(with_reducible refine (HG.out _ h0R).mono ?_);rintro x w5 ⟨a5,c5,rfl,FH,hc5,hb5⟩)
           | (refine dI 66 _ _ _ #[.slice a5 r2'.b.length c5,.int .i64 r2'.e] _ rfl rfl (by kernel_rfl) rfl (by kernel_rfl) ?_)
           | (refine cu 121 _ _ _ #[.int .i64 dd.a.dev,.int .i64 dd.a.inc,.int .i64 dd.seq] (w5.heap.size+1) (by simp) rfl rfl (by kernel_rfl) rfl (by kernel_rfl) ?_))
         refine au (fun U2 hU=>?_);have hN:RdBlk U2 w5.heap.size r2' a5 c5:=by rw [hU.out];exact RdBlk.new2 w5 r2' a5 c5 _
         have hS:StBlk U2 (w5.heap.size+1) #[.int .i64 dd.a.dev,.int .i64 dd.a.inc,.int .i64 dd.seq] 121:=by rw [hU.out];exact StBlk.new2 w5 _ _ _
         have hbU:Below wr.heap.size wr U2:=by rw [hU.out];exact (hb5.alloc hb5.size _).alloc (Nat.le_trans hb5.size (by simp)) _
         have hz5:=hb5.size;have hXU:=hX.below hbU;have hMV:=hM.below hbU;have yw:=ownsRow_below hown hbU;have hFU:=hF.again (Fr.of_below hbU);clear hU hb5 hX hM hown hF p0 p1 pf0 pf1 hrg q1;have hrN:=hN.range;go_upto_region 16 with (first
           | ((with_reducible refine ah 66 _ w5.heap.size 0 [.slice a5 r2'.b.length c5,.int .i64 r2'.e] (bn r2' a5 c5) rfl _ underlying66 rfl (by kernel_rfl) hrN ?_ rfl ?_);exact rfl)
           | (refine wpList_store_row rfl 66 _ _ rfl Y3 #[.slice a5 r2'.b.length c5,.int .i64 r2'.e] rfl rfl 66 (dL rr ar cr) hXU (by kernel_rfl) rfl (by kernel_rfl) ?_))
         refine au (fun Y hY=>?_);have hk:∀ q,q≠Y3→Y.heap[q]?=U2.heap[q]?:=fun q hq=>by rw [hY.out];exact aI _ _ _ _ (fun e=>hq e.symm)
         have hXY:RdBlk Y Y3 r2' a5 c5:=by rw [hY.out];exact setRow_heap _ _ _ _ _ _ hXU
         have hMY:MpB Y B (.slice none 0 0) vK v:=(hk _ (by omega)).trans hMV;have hSY:StBlk Y (w5.heap.size+1) #[.int .i64 dd.a.dev,.int .i64 dd.a.inc,.int .i64 dd.seq] 121:=(hk _ (by omega)).trans hS;have nS:=kJ yw (fun q hq=>hk q (by omega));have hFY:Fr (jq Y3 B) V3 Y:=by rw [hY.out];exact hFU.setRow (Or.inr (Or.inl rfl)) _
         have VN:=hXY.lt;have hVY:=hFY.size;clear hY hk hrN hN hXU hMV yw hFU hbU hS;have p4:=hMY.cells.2.2;have y4:=hMY.free 2;have hrS:=hSY.range;have hdv:=gW dl;go_wp2_with (first
           | ((with_reducible refine ah 121 _ (w5.heap.size+1) 0 [.int .i64 dd.a.dev,.int .i64 dd.a.inc,.int .i64 dd.seq] (oQ dd) rfl _ underlying121 rfl (by kernel_rfl) hrS ?_ rfl ?_);exact rfl)
           | (at_builtin;go_loud (refine wpList_append_own _ rfl _ _ 34 rfl V3.heap.size 121 j0 (.agg #[.int .i64 0,.int .i64 0,.int .i64 0]) 3 24 underlying34 hj hy0 hy1 hy2 rfl (by decide) _ _ _ rfl (nS.alloc _) ⟨Y.heap.size,0,none⟩ 1 1 [.int .i64 dd.a.dev,.int .i64 dd.a.inc,.int .i64 dd.seq] rfl rfl (NP Y dd _) (by simp [Value.oneCell']) (by unfold maxLen;omega) (by omega) (by simp;omega) ?_)))
         intro v' wf nR hgrow _;have gZ:wf.ownsRow V3.heap.size 121 3 v' (dl++[dd]).length (aY (dl++[dd])):=by rw [← pq,List.length_append];exact nR
         obtain ⟨ad',cap2,rfl⟩:=xq gZ;have hal:Below Y.heap.size Y (Y.alloc (Obj.cells #[.int .i64 dd.a.dev,.int .i64 dd.a.inc,.int .i64 dd.seq] 121)):=(Below.refl _ _).alloc (Nat.le_refl _) _;have hMf:MpB wf B (.slice none 0 0) vK v:=(hMY.below hal).grown hgrow (fun h=>by have:=(nS.lt _ h.symm).1;omega);have hXf:RdBlk wf Y3 r2' a5 c5:=(hgrow.block _ (by simp;omega) (fun h=>by have:=(nS.lt _ h.symm).1;omega)).trans (hXY.below hal);have hFf:Fr (jq Y3 B) V3 wf:=(hFY.alloc _).grown2 hgrow (fun q hq=>(nS.lt q hq).1);have p4f:=hMf.cells.2.2;have x4f:=hMf.free 2;have hMs:=hMf.set2 (.slice ad' (dl++[dd]).length cap2);have hXs:RdBlk (wf.setCell ⟨B,2,none⟩ (.slice ad' (dl++[dd]).length cap2)) Y3 r2' a5 c5:=(heap_setCell_other _ _ _ _ (by simp only;omega)).trans hXf;have hos:=ownsRow_setCell_other (a:=⟨B,2,none⟩) gZ (fun e=>by have:=(gZ.lt _ e).1;simp only at this;omega) (.slice ad' (dl++[dd]).length cap2);have hFs:Fr (jq Y3 B) V3 (wf.setCell ⟨B,2,none⟩ (.slice ad' (dl++[dd]).length cap2)):=hFf.setCell (Or.inr (Or.inr rfl)) _;simp only [List.length_append,List.length_singleton] at hMs hXs hFs hos;have Ja:=Lib.hid (And.intro hMs (And.intro hXs (And.intro hos hFs)));clear hMs hXs hos hFs hMf hXf gZ nR hgrow hMY hXY nS hFY hSY hrS p4 y4;go_wp2;go_roundw
         case rel=>exact ⟨j+1,n,dl++[dd],r2',a5,c5,_,by go_num,by omega,by simp;omega,by omega,Ja.out.2.1,FH,hc5,Ja.out.1,by simp only [List.length_append,List.length_singleton];exact Ja.out.2.2.1,Ja.out.2.2.2,HS.out⟩
         case measure => exact z65
        ·have hend:bT m rr=(rr,[]):=by
           exact z73
         have hq:r5=rr∧ds=dl:=by
           have h1:=H5.out
           exact z91
         obtain ⟨p0,p1,pf0,pf1⟩:=hX.two;have hdl:dl.length≤65536:=by omega
         clear hend HP;have HF:Hid (∃ (ar:Option Addr) (cr:Nat) (v:Value),RdBlk wr Y3 r5 ar cr∧MpB wr B (.slice none 0 0) vK v∧wr.ownsRow V3.heap.size 121 3 v ds.length (aY ds)∧Fr (jq Y3 B) V3 wr∧ds.length≤65536∧r5.b.length≤1048576):=by
           rw [hq.1,hq.2];exact ⟨ar,cr,v,hX,hM,hown,hF,hdl,hrl⟩
         clear hq;by_cases hjk:j<D
         ·have q1:(rr.e == 0)=false:=beq_eq_false_iff_ne.2 (fun e=>hgo ⟨by omega,e⟩)
          have e1:=decide_eq_true hjk;have e2:decide ((j:Int)<(D:Int))=true:=decide_eq_true (by omega)
          exact z115
         ·have e1:=decide_eq_false hjk
          have e2:decide ((j:Int)<(D:Int))=false:=decide_eq_false (by omega)
          exact z115
  case rest =>
   obtain ⟨ar,cr,v,hX,hM4,hown,hF,hdl,hrl⟩:=hcut;obtain ⟨U4,Xk⟩:∃ U4,U4=wc:=⟨_,rfl⟩;subst Xk;obtain ⟨ad,cd,rfl,hdd,VF⟩:=qK hown;have hcd:ds.length≤cd:=Aw hown;replace hbt:Below w.heap.size w U4:=hbt.trans (hF.below U9 (fun q hq=>by rcases hq with rfl | rfl <;> omega));have VY:EvP (fun A=>B<A∧A≠Y3) U4 ax ls:=hEv.keep (fun A hA hs=>⟨hF.block A hs (jo (by omega) (by omega)),hA.1,by omega⟩);have V8:DtP (fun A=>B<A∧A≠Y3) U4 am mk:=hDm.keep (fun A hA hs=>⟨hF.block A hs (jo (by omega) (by omega)),hA.1,by omega⟩);have Wh:DtP (fun A=>B<A∧A≠Y3) U4 ad ds:=⟨hdd,fun A off h _=>by have:=VF A off h;omega⟩;have hZ4:MpB U4 w.heap.size (.slice none 0 0) (.slice none 0 0) (.slice none 0 0):=(hF.block _ hZ.lt (jo (by omega) (by omega))).trans hZ;clear hown hdd VF hF hEv hDm hZ hM hX3 H5 Dh hc4 l4 l3 l2;obtain ⟨x0,x1,xf0,xf1⟩:=hX.two;obtain ⟨tB,htB⟩:∃ tB,tB=(decide (r5.e=0) && decide (0<r5.b.length)):=⟨_,rfl⟩;have HTB:=Lib.hid htB;clear htB;obtain ⟨er,her⟩:∃ er,er=eX r5:=⟨_,rfl⟩;have HER:=Lib.hid her;clear her;go_upto_region 17 with fail
   go_cut [86] (fun v wx=>v=.bool tB∧U4=wx)
   case first =>
        by_cases h1:r5.e=0
        ·have q1:(r5.e == 0)=true:=beq_iff_eq.2 h1
         by_cases h2:0<r5.b.length
         ·have d1:=decide_eq_true h2
          have d2:decide ((0:Int)<(r5.b.length:Int))=true:=decide_eq_true (by omega);have HT:Hid (tB=true):=by rw [Hid,HTB.out];simp [h1,h2]
          clear h1 h2
          exact z143
         ·have d1:=decide_eq_false h2
          have d2:decide ((0:Int)<(r5.b.length:Int))=false:=decide_eq_false (by omega);have HT:Hid (tB=false):=by rw [Hid,HTB.out];simp [h2]
          clear h1 h2
          exact z143
        ·have q1:(r5.e == 0)=false:=beq_eq_false_iff_ne.2 h1
         have HT:Hid (tB=false):=by rw [Hid,HTB.out];simp [h1]
         clear h1
         exact z143
   case rest =>
        obtain ⟨rfl,rfl⟩:=hcut;go_upto_if 86 with fail
        go_cut [] (fun wx=>RdBlk wx Y3 ⟨r5.b,er⟩ ar cr∧(∀ q,q≠Y3→wx.heap[q]?=U4.heap[q]?)∧Below w.heap.size w wx)
        case first =>
         have hR:er=if tB=true then 1 else r5.e:=by
           rw [HER.out,HTB.out];unfold eX;by_cases h1:r5.e=0
           ·by_cases h2:0<r5.b.length
            ·simp [h1,h2]
            ·simp [h1,h2]
           ·simp [h1]
         have HR:=Lib.hid hR;clear hR HTB
         cases tB with
         | true =>
           have HR1:Hid (er=1):=by rw [Hid,HR.out];rfl
           go_wp2;go_meet;exact ⟨by rw [HR1.out];exact pJ hX _,fun q hq=>heap_setCell_other _ _ _ _ (fun e=>hq e.symm),hbt.setCell (by simp only;omega) _⟩
         | false =>
           have HR1:Hid (er=r5.e):=by rw [Hid,HR.out];rfl
           go_wp2;go_meet;exact ⟨by rw [HR1.out];exact hX,fun q hq=>rfl,hbt⟩
        case rest =>
         obtain ⟨hX5,hk5,hb5⟩:=hcut;obtain ⟨U5,Xj⟩:∃ U5,U5=wc:=⟨_,rfl⟩;subst Xj;have hM5:MpB U5 B (.slice none 0 0) vK (.slice ad ds.length cd):=(hk5 _ (by omega)).trans hM4;have hZ5:MpB U5 w.heap.size (.slice none 0 0) (.slice none 0 0) (.slice none 0 0):=(hk5 _ (by omega)).trans hZ4;have VX:EvP (fun A=>B<A∧A≠Y3) U5 ax ls:=VY.keep (fun A hA _=>⟨hk5 A hA.2,hA⟩);have Qk:DtP (fun A=>B<A∧A≠Y3) U5 am mk:=V8.keep (fun A hA _=>⟨hk5 A hA.2,hA⟩);have We:DtP (fun A=>B<A∧A≠Y3) U5 ad ds:=Wh.keep (fun A hA _=>⟨hk5 A hA.2,hA⟩);clear hX hM4 hZ4 VY V8 Wh hk5 hbt x0 x1 xf0 xf1 HTB;have c0:=hM5.cells.1;have c0f:=hM5.free 0;go_upto_region 20 with fail
         refine au (fun U6 hU6=>?_);have hk6:∀ q,q≠B→U6.heap[q]?=U5.heap[q]?:=fun q hq=>by rw [hU6.out];exact heap_setCell_other _ _ _ _ (fun e=>hq e.symm)
         have hM6:MpB U6 B (.slice am mk.length cm) vK (.slice ad ds.length cd):=by rw [hU6.out];exact hM5.set0 _
         have hX6:RdBlk U6 Y3 ⟨r5.b,er⟩ ar cr:=(hk6 _ (by omega)).trans hX5;have hZ6:MpB U6 w.heap.size (.slice none 0 0) (.slice none 0 0) (.slice none 0 0):=(hk6 _ (by omega)).trans hZ5;have RP:EvP (fun A=>B<A∧A≠Y3) U6 ax ls:=VX.keep (fun A hA _=>⟨hk6 A (by omega),hA⟩);have Kw:DtP (fun A=>B<A∧A≠Y3) U6 am mk:=Qk.keep (fun A hA _=>⟨hk6 A (by omega),hA⟩);have RS:DtP (fun A=>B<A∧A≠Y3) U6 ad ds:=We.keep (fun A hA _=>⟨hk6 A (by omega),hA⟩);have hb6:Below w.heap.size w U6:=by rw [hU6.out];exact hb5.setCell (by simp only;omega) _
         clear hU6 hk6 hM5 hX5 hZ5 VX Qk We hb5 c0 c0f;obtain ⟨x0,x1,xf0,xf1⟩:=hX6.two;simp only at x0 x1;obtain ⟨ef,hef⟩:∃ ef,ef=(if er=0 then gu mk evs ds else er):=⟨_,rfl⟩;have HEF:=Lib.hid hef;clear hef;go_upto_if 92 with fail
         go_cut [] (fun wx=>RdBlk wx Y3 ⟨r5.b,ef⟩ ar cr∧MpB wx B (.slice am mk.length cm) vK (.slice ad ds.length cd)∧MpB wx w.heap.size (.slice none 0 0) (.slice none 0 0) (.slice none 0 0)∧EvP (fun A=>B<A∧A≠Y3) wx ax ls∧DtP (fun A=>B<A∧A≠Y3) wx am mk∧DtP (fun A=>B<A∧A≠Y3) wx ad ds∧Below w.heap.size w wx)
         case first =>
           by_cases he:er=0
           ·have q1:(er == 0)=true:=beq_iff_eq.2 he
            have HE0:Hid (ef=gu mk evs ds):=by rw [Hid,HEF.out,if_pos he]
            have hld:gu mk evs ds=dA mk ls ds:=by rw [← hev];exact vH _ _ _
            subst hvK;have VS:RMIn U6 ⟨am,mk,cm,ax,ls,cx,ad,ds,cd⟩:=⟨Kw.1,RP.evs,RS.1,hcm,hlc,hcd⟩;have HLd:Hid (Calls prog 63 #[.agg #[.slice am mk.length cm,.slice ax ls.length cx,.slice ad ds.length cd]] U6 fun x w'=>x=.returned (.int .i64 ef)∧Below U6.heap.size U6 w'):=by
             have:=GG ⟨am,mk,cm,ax,ls,cx,ad,ds,cd⟩ U6 (by simp only;omega) (by simp only;omega) (by simp only;omega) hsm VS;rw [Hid,HE0.out,hld];exact this
            have TU:=hM6.range;have XH:=hX6.lt;clear HE0 hld HEF he VS;go_wp2_with (first
             | ((with_reducible refine ah 36 _ B 0 [.slice am mk.length cm,.slice ax ls.length cx,.slice ad ds.length cd] (.agg #[.slice am mk.length cm,.slice ax ls.length cx,.slice ad ds.length cd]) rfl _ underlying36 rfl (by kernel_rfl) TU ?_ rfl ?_);exact rfl)
             | (go_at_call 63;(with_reducible refine HLd.out.mono ?_);rintro x w9 ⟨rfl,hb9⟩;obtain ⟨z0,z1,zf0,zf1⟩:=(hX6.below hb9).two;simp only at z0 z1))
            go_meet;have hk9:∀ (v:Value) (q:Nat),q≠Y3→(w9.setCell ⟨Y3,1,none⟩ v).heap[q]?=w9.heap[q]?:=fun v q hq=>heap_setCell_other _ _ _ _ (fun e=>hq e.symm);exact ⟨pJ (hX6.below hb9) _,(hk9 _ _ (by omega)).trans (hM6.below hb9),(hk9 _ _ (by omega)).trans (hZ6.below hb9),RP.keep (fun A hA hs=>⟨(hk9 _ A hA.2).trans (hb9.block _ hs),hA⟩),Kw.keep (fun A hA hs=>⟨(hk9 _ A hA.2).trans (hb9.block _ hs),hA⟩),RS.keep (fun A hA hs=>⟨(hk9 _ A hA.2).trans (hb9.block _ hs),hA⟩),(below2 hb6 hb9).setCell (by simp only;omega) _⟩
           ·have q1:(er == 0)=false:=beq_eq_false_iff_ne.2 he
            have HE0:Hid (ef=er):=by rw [Hid,HEF.out,if_neg he]
            clear he HEF;go_wp2;go_meet;exact ⟨by rw [HE0.out];exact hX6,hM6,hZ6,RP,Kw,RS,hb6⟩
         case rest =>
           obtain ⟨hX7,hM7,hZ7,Ut,VZ,V9,hb7⟩:=hcut;obtain ⟨U7,Xi⟩:∃ U7,U7=wc:=⟨_,rfl⟩;subst Xi;clear hX6 hM6 hZ6 RP Kw RS hb6 x0 x1 xf0 xf1;obtain ⟨x0,x1,xf0,xf1⟩:=hX7.two;simp only at x0 x1;have Xz:=hb7.size;have HFE:Hid (ef=if eX r5=0 then gu mk evs ds else eX r5):=by rw [Hid,HEF.out,HER.out]
           clear HEF HER;subst hvK;by_cases he:ef=0
           ·have q1:(ef == 0)=true:=beq_iff_eq.2 he
            have q2:(ef != 0)=false:=by rw [bne_eq_false_iff_eq];exact he
            have HE0:=Lib.hid he;have TU:=hM7.range;clear he;go_wp2_with (first
             | ((with_reducible refine ah 36 _ B 0 [.slice am mk.length cm,.slice ax ls.length cx,.slice ad ds.length cd] (.agg #[.slice am mk.length cm,.slice ax ls.length cx,.slice ad ds.length cd]) rfl _ underlying36 rfl (by kernel_rfl) TU ?_ rfl ?_);exact rfl)
             | (refine wpList_store_row rfl 36 _ _ rfl w.heap.size #[.slice am mk.length cm,.slice ax ls.length cx,.slice ad ds.length cd] rfl rfl 36 #[.slice none 0 0,.slice none 0 0,.slice none 0 0] hZ7 (by kernel_rfl) rfl (by kernel_rfl) ?_))
            refine bI 2 3 36 36 w.heap.size #[.slice am mk.length cm,.slice ax ls.length cx,.slice ad ds.length cd] _ (.int .i64 0) rfl rfl rfl (setRow_heap _ _ _ _ _ _ hZ7) underlying36 rfl (by kernel_rfl) rfl ?_;have hk:∀ (cs:Array Value) (A:Nat),B<A→(U7.setRow w.heap.size cs).heap[A]?=U7.heap[A]?:=fun cs A hA=>aI _ _ _ _ (by omega);refine ⟨⟨am,mk,cm,ax,ls,cx,ad,ds,cd⟩,0,rfl,by rw [← HFE.out,HE0.out],⟨?_,?_,?_,hcm,hlc,hcd⟩,hsm,below_setRow hb7 (Nat.le_refl _) _,fun _=>⟨rfl,hev,rfl⟩,⟨fun A off h1 h2=>by have:=(VZ.2 A off h1 h2).1;omega,fun A off h1 h2=>by have:=(Ut.row A off h1 h2).1;omega,fun x hx A off h1 h2=>by have:=(Ut.over x hx A off h1 h2).1;omega,fun A off h1 h2=>by have:=(V9.2 A off h1 h2).1;omega⟩⟩
            ·exact (VZ.keep (Q:=fun _=>True) (fun A hA _=>⟨hk _ A hA.1,trivial⟩)).1
            ·exact (Ut.keep (Q:=fun _=>True) (fun A hA _=>⟨hk _ A hA.1,trivial⟩)).evs
            ·exact (V9.keep (Q:=fun _=>True) (fun A hA _=>⟨hk _ A hA.1,trivial⟩)).1
           ·have q1:(ef == 0)=false:=beq_eq_false_iff_ne.2 he
            have q2:(ef != 0)=true:=by rw [bne_iff_ne];exact he
            have HE0:=Lib.hid he;clear he;go_upto_region 23 with fail
            refine wp_region_noPanic ?_;refine wp_region_held_drew (S:=fun W'=>W'.cell? ⟨Y3,1,none⟩=some (.int .i64 ef)) (by kernel_rfl) x1 (fun hHeld=>?_);refine tH 0 99 rfl (Or.inl ⟨by rfl,fun W hSW=>yD _ _ rfl (#[.slice none 0 0,.slice none 0 0,.slice none 0 0]) (by kernel_rfl)⟩) ?_;try simp only [pS]
            refine tH (v:=?_) 1 100 rfl (Or.inl ⟨by rfl,?_⟩) ?_
            case refine_2 => exact z20
            try simp only [pS]
            refine tH (v:=?_) 2 101 rfl (Or.inl ⟨by rfl,?_⟩) ?_
            case refine_2 => exact z20
            try simp only [pS]
            refine wpAnyH_ready (rs:=[3]) (by kernel_rfl) (by simp) ?_;refine AllReadyH.cons rfl (fun K hK=>?_) AllReadyH.nil;refine dY rfl 36 _ _ rfl w.heap.size #[.slice none 0 0,.slice none 0 0,.slice none 0 0] rfl rfl 36 #[.slice none 0 0,.slice none 0 0,.slice none 0 0] hZ7 (by kernel_rfl) rfl (by kernel_rfl) ?_;refine hK.out _ _ ?_ (fun hHeld=>?_)
            ·exact ((World.cell?_of_block (aI _ _ _ _ (by simp only;omega))).trans x1)
            clear hK K;try simp only [pS]
            refine tH (v:=?_) 4 3 rfl (Or.inl ⟨by rfl,?_⟩) ?_
            case refine_2 => exact z20
            refine y54 ?_
            go_wp2;refine bI 2 3 36 36 w.heap.size #[.slice none 0 0,.slice none 0 0,.slice none 0 0] _ (.int .i64 ef) rfl rfl rfl (setRow_heap U7.drew _ _ _ _ _ hZ7) underlying36 rfl (by kernel_rfl) rfl ?_;exact ⟨rm0,ef,rfl,HFE.out,TJ _,Nb,below_setRow hb7.drew (Nat.le_refl _) _,fun e=>absurd e HE0.out,⟨fun _ _ _ h=>absurd rfl h,fun _ _ _ h=>absurd rfl h,fun x hx=>(nomatch hx),fun _ _ _ h=>absurd rfl h⟩⟩
end Go.Proofs.YtepkclldbkhanaaGreat
