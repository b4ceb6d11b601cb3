/- Bytes of a frame with one byte changed are no frame: plain laws. Conditions: a body of at most 2^20 bytes. -/
import Derived.Test.YthphepeniaemoaaGreatVGet
import Derived.Test.YthphepeniaemoaaGreatMkB
import Derived.Test.YthphepeniaemoaaGreatCanA
import Derived.Test.YthphepeniaemoaaGreatCrc
import Derived.Test.YthphepeniaemoaaGreatRead
import Derived.Test.YthphepeniaemoaaGreatRefE
set_option linter.unusedSimpArgs false
set_option linter.unusedVariables false
set_option linter.unnecessarySimpa false
set_option maxHeartbeats 16000000
set_option maxRecDepth 100000
open Go.Proofs.Tryz
namespace Go.Proofs.YthphepeniaemoaaGreat
end Go.Proofs.YthphepeniaemoaaGreat
/- What is read has just the bytes that it is packed to: plain laws. Conditions: none. -/
namespace Go.Proofs.YthphepeniaemoaaGreat
end Go.Proofs.YthphepeniaemoaaGreat
/- A frame that is read has just the bytes that it is packed to. Conditions: none. -/
namespace Go.Proofs.YthphepeniaemoaaGreat
open Go.RowKit
end Go.Proofs.YthphepeniaemoaaGreat
/- A snapshot's bytes, plainly. Conditions: none. -/
namespace Go.Proofs.YthphepeniaemoaaGreat
/-- what a frame's body is read as: the reader's end, device, life, stamp, the map's bytes -/
def CY (body:Bytes):Rd×Nat×Nat×Stamp×Bytes :=
 let a:=bQ 63 ⟨body,0⟩
 let b:=bQ 1048576 a.1
 let c:=gQ b.1
 let t:=aV 1048576 c.1
 (t.1,a.2,b.2,c.2,t.2)
/-- a snapshot's body -/
def ckB (dev inc:Nat) (st:Stamp) (full:Bytes):Bytes:=aj dev++aj inc++dE st++bW full
end Go.Proofs.YthphepeniaemoaaGreat
/- checkpoint.Bytes of a snapshot that may be. Conditions: at most 2^20 bytes. -/
namespace Go.Proofs.YthphepeniaemoaaGreat
open Go.RowKit
abbrev snV (d i:Int) (s:Stamp) (v:Value):Value:=.agg #[.int .i64 d,.int .i64 i,.int .i64 s.wall,.int .i64 s.count,.int .i64 s.dev,v]
abbrev lU (d i:Int) (s:Stamp) (v:Value):List Value:=[.int .i64 d,.int .i64 i,.int .i64 s.wall,.int .i64 s.count,.int .i64 s.dev,v]
abbrev Fh (s:Stamp):List Value:=[.int .i64 s.wall,.int .i64 s.count,.int .i64 s.dev]
abbrev snA (d i:Int) (s:Stamp) (v:Value):Array Value:=#[.int .i64 d,.int .i64 i,.int .i64 s.wall,.int .i64 s.count,.int .i64 s.dev,v]
theorem uK (d i:Int) (s:Stamp) (v:Value) (w:World) (t:TypeId):(w.alloc (Obj.cells #[.int .i64 d,.int .i64 i,.int .i64 s.wall,.int .i64 s.count,.int .i64 s.dev,v] t)).rangeAt w.heap.size 0 (lU d i s v):=by
 intro j u hu;rw [aw,World.cell?_alloc_new];exact (by simpa using hu)
theorem wG {d i:Int} {s:Stamp} {v:Value} {w:World} {b:Nat} (h:w.rangeAt b 0 (lU d i s v)):w.rangeAt b 2 (Fh s):=fun j u hu=>by
 match j,hu with
 | 0,hu=>cases hu;exact h 2 _ rfl
 | 1,hu=>cases hu;exact h 3 _ rfl
 | 2,hu=>cases hu;exact h 4 _ rfl
theorem BytesIn.hold {S:Nat->Prop} {w0 w:World} {B:Nat} {l m:Bytes} {a:Option Addr} (h:Hold S w0 B w l) (hb:BytesIn w0 a m) (hA:∀ A off,a=some ⟨A,off,none⟩->m≠[]->¬ S A):BytesIn w a m:=by
 rcases hb with hb | ⟨A,off,rfl,hb⟩
 ·exact bb hb
 ·exact bd ⟨A,off,rfl,fun j hj=>h.kept (hb j hj) (hA A off rfl (by intro e;subst e;simp at hj))⟩
theorem vU {w:World} {A off:Nat} {m:Bytes} (hb:BytesIn w (some ⟨A,off,none⟩) m) (hne:m≠[]):A<w.heap.size:=by
 rcases hb with hb | ⟨A',off',e,hb⟩
 ·exact absurd hb hne
 ·cases e
  exact World.block_lt_of_cell? w _ (hb 0 (List.length_pos_iff.2 hne))
theorem Jc (d i:Nat) (s:Stamp) (v:Value) (w:World) (hd:d<=63) (hi:i<=1048576) (hs:dI s=true) :
 Calls prog 62 #[snV d i s v] w fun e w'=>e=.returned (.bool true)/\Below w.heap.size w w':=by
 have HC0:=fun (W:World)=>kW s W;rw [hs] at HC0;have HC:=aq HC0;have d0:decide ((0:Int)<=(d:Int))=true:=aR (by omega);have d1:decide ((d:Int)<64)=true:=aR (by omega);have d2:decide ((0:Int)<=(i:Int))=true:=aR (by omega);have d3:decide ((i:Int)<=1048576)=true:=aR (by omega);clear hs HC0;go_enter func62,ntmps62;go_upto_region 1 with fail
 refine aI (fun W hW=>?_);have hb:Below w.heap.size w W:=by rw [hW.out];go_grown
 have hR:W.rangeAt w.heap.size 0 (lU d i s v):=by rw [hW.out];exact uK _ _ _ _ _ _
 have c0:W.cell? ⟨w.heap.size,0,none⟩=some (.int .i64 d):=hR 0 _ rfl;have c1:W.cell? ⟨w.heap.size,1,none⟩=some (.int .i64 i):=hR 1 _ rfl;have hS:=wG hR;clear hW hR;go_wp2_with (first
  | ((with_reducible refine bT 32 _ w.heap.size 2 (Fh s) (lT s) rfl _ underlying32 rfl (by kernel_rfl) hS ?_ rfl ?_);exact rfl)
  | (go_at_call 105;(with_reducible refine (HC.out _).mono ?_);rintro e w1 ⟨rfl,hb1⟩))
 all_goals
  go_ret;exact ⟨rfl,below2 hb hb1⟩
theorem zA (d i:Nat) (s:Stamp) {m:Nat} {b:MB} {t:MS} (w:World) (h:MpIn w m b t) (hv:MInv t) (hnd:(t.K.map (·.1.dot)).Nodup) (hcx:t.ctx.length<=4096) (hdd:t.dead.length<=65536) (hfl:(fM t).length<=1048576)
 (hd:d<=63) (hi:i<=1048576) (hs:dI s=true) (hbl:(ckB d i s (fM t)).length<=1048576) :
 Calls prog 24 #[snV d i s (.pointer (some ⟨m,0,none⟩))] w (MX (dJ (ckB d i s (fM t))) w):=by
 have HR:=aq (fun (X:World)=>Jc d i s (.pointer (some ⟨m,0,none⟩)) X hd hi hs);have HF:=aq (fun (X:World) (hX:MpIn X m b t)=>Ls X hX hv hnd hcx hdd hfl);have hcb:(ckB d i s (fM t))=aj d++aj i++dE s++bW (fM t):=rfl;have lens:(aj d++aj i++dE s++bW (fM t)).length<=1048576:=hbl;simp only [av] at lens;have hne:ckB d i s (fM t)≠[]:=by
  rw [hcb];have:=gW d;simp [this]
 have HL:=aq hcb;clear hcb hv hnd hcx hdd hs;generalize fM t=full at *;generalize hbody:ckB d i s full=body at *;clear hbody;go_enter func24,ntmps24;go_upto_region 1 with fail
 refine aI (fun W hW=>?_);have hbt:Below w.heap.size w W:=by rw [hW.out];go_grown
 have hR:W.rangeAt w.heap.size 0 (lU d i s (.pointer (some ⟨m,0,none⟩))):=by rw [hW.out];exact uK _ _ _ _ _ _
 have hzW:w.heap.size<W.heap.size:=by rw [hW.out];simp
 have hm:=h.kept_w hbt;clear hW h;have c5:W.cell? ⟨w.heap.size,5,none⟩=some (.pointer (some ⟨m,0,none⟩)):=hR 5 _ rfl;go_upto_region 5 with (first
  | ((with_reducible refine bT 42 _ w.heap.size 0 (lU d i s (.pointer (some ⟨m,0,none⟩))) (snV d i s (.pointer (some ⟨m,0,none⟩))) rfl _ underlying42 rfl (by kernel_rfl) hR ?_ rfl ?_);exact rfl)
  | (go_at_call 62;(with_reducible refine (HR.out _).mono ?_);rintro e w1 ⟨rfl,hb1⟩))
 replace hR:=ai hR hb1;replace hbt:=below2 hbt hb1;replace hm:=hm.kept_w hb1;have hz1:=Nat.lt_of_lt_of_le hzW hb1.size;clear c5 hb1 hzW HR;have c5:w1.cell? ⟨w.heap.size,5,none⟩=some (.pointer (some ⟨m,0,none⟩)):=hR 5 _ rfl;go_upto_region 8 with (go_at_call 63;(with_reducible refine (HF.out _ hm).mono ?_);rintro e w2 ⟨a2,c2,rfl,⟨hB2,hc2⟩,hb2⟩)
 replace hR:=ai hR hb2;replace hbt:=below2 hbt hb2;have hz2:=Nat.lt_of_lt_of_le hz1 hb2.size;clear c5 hb2 hz1 HF hm;go_upto_region 9 with fail
 refine aI (fun W4 hW4=>?_);have hb4:Below w2.heap.size w2 W4:=by rw [hW4.out];go_grown
 obtain ⟨B,hBB⟩:∃ B,B=w2.heap.size:=⟨_,rfl⟩;have H0:Hold (fun k=>k=B) W4 B W4 []:=by
  refine Hold.start ⟨rfl,.slice none 0 0,0,by rw [hW4.out,hBB];exact Array.getElem?_push_size,World.ownsRow_nil _ _ _ _,fun g hg=>by cases hg⟩
 have hAB:∀ A off,a2=some ⟨A,off,none⟩->full≠[]->¬ (A=B):=fun A off e hne=>by
  subst e;have:=vU hB2 hne;omega
 rw [<- hBB] at hz2 ⊢;replace hbt:=below2 hbt hb4;replace hR:=ai hR hb4;replace hB2:=BytesIn.kept hB2 hb4;have hns:¬ (w.heap.size=B):=by omega
 clear hW4 hb4 hBB;have H0d:=H0.drew;have N1:=aq (show Calls prog 64 #[.pointer (some ⟨B,0,none⟩),.int .u64 d] W4.drew (rF (fun k=>k=B) W4 B (aj d)) from by have:=zD H0d d (by simp) (by omega);rwa [List.nil_append] at this);have N2:=aq (fun (X:World) (h:Hold (fun k=>k=B) W4 B X (aj d))=>zD h i (by omega) (by omega));have N3:=aq (fun (X:World) (h:Hold (fun k=>k=B) W4 B X (aj d++aj i))=>CW h s (by simp only [av];omega));have N4:=aq (fun (X:World) (h:Hold (fun k=>k=B) W4 B X (aj d++aj i++dE s))=>Df h (mkS full) (by simp only [av];omega) (by rw [kN];omega));have N5:=aq (fun (X:World) (h:Hold (fun k=>k=B) W4 B X (aj d++aj i++dE s++bW (bl (mkS full))))=>Jo h (by rw [show bl (mkS full)=full from rfl];simp only [av];omega));have c0:W4.cell? ⟨w.heap.size,0,none⟩=some (.int .i64 d):=hR 0 _ rfl;have c1:W4.cell? ⟨w.heap.size,1,none⟩=some (.int .i64 i):=hR 1 _ rfl;have s0:d<9223372036854775808:=by omega
 have s1:i<9223372036854775808:=by omega
 have u0:d<18446744073709551616:=by omega
 have u1:i<18446744073709551616:=by omega
 have g0:IntKind.u64.wrap ((d:Nat):Int)=((d:Nat):Int):=IntWalk.u64_in _ (by omega);have g1:IntKind.u64.wrap ((i:Nat):Int)=((i:Nat):Int):=IntWalk.u64_in _ (by omega);have k0:=H0d.kept c0 hns;have k1:=H0d.kept c1 hns;go_wp2_with fail
 go_region_held3 (fun W'=>W'.cell? ⟨w.heap.size,0,none⟩=some (.int .i64 (d:Nat))/\W'.cell? ⟨w.heap.size,1,none⟩=some (.int .i64 (i:Nat))) (first | exact ⟨k0,k1⟩ | go_keep)
  (first
   | (go_at_call 64;(with_reducible refine N1.out.mono ?_);rintro x wa ⟨rfl,Ha⟩;have k0:=Ha.kept c0 hns;have k1:=Ha.kept c1 hns)
   | (go_at_call 64;(with_reducible refine (N2.out _ Ha).mono ?_);rintro x wb ⟨rfl,Hb⟩;have k0:=Hb.kept c0 hns;have k1:=Hb.kept c1 hns))
 have hSb:=Hb.range (wG hR) hns;clear g0 g1 k0 k1 c0 c1 H0 H0d N1 N2 Ha;go_upto_region 11 with (first
  | ((with_reducible refine bT 32 _ w.heap.size 2 (Fh s) (lT s) rfl _ underlying32 rfl (by kernel_rfl) hSb ?_ rfl ?_);exact rfl)
  | (go_at_call 65;(with_reducible refine (N3.out _ Hb).mono ?_);rintro x wc ⟨rfl,Hc⟩))
 have hBc:BytesIn wc a2 full:=BytesIn.hold Hc hB2 hAB;have hcv:=vO hBc full.length c2 (ar _);rw [List.take_length] at hcv;go_upto_region 12 with (go_at_call 66;(with_reducible refine (N4.out _ Hc).mono ?_);rintro x wd ⟨rfl,Hd⟩)
 have hbd:Below w.heap.size w wd:=hbt.trans (Hd.fr.below hbt.size (fun q hq=>by rcases hq with hq | hq <;> omega));have N6:Hid (∀ (X:World) (p:Option Addr) (c:Nat),BytesIn X p body->Calls prog 67 #[.slice none 0 0,.slice p body.length c] X (MX (dJ body) X)):=aq (fun X p c hX=>Gt none p 0 c [] body X (by simp) hbl hne (bb rfl) hX);rw [show bl (mkS full)=full from rfl] at N5 Hd;rw [<- HL.out] at N5 Hd;clear N3 N4 Hc Hb hcv hBc hSb hR hAB hB2;go_wp2_with (first
  | (go_at_call 68;(with_reducible refine (N5.out _ Hd).mono ?_);rintro x we ⟨v,rfl,hown,hbe⟩;obtain ⟨ab,cb,rfl,Ov⟩:=bP hown)
  | (go_at_call 67;(with_reducible refine (N6.out _ _ _ Ov).mono ?_);rintro x wf ⟨v2,rfl,hown2,hbf⟩))
 go_returns;have hbe':=hbd.trans (hbe.mono hbd.size);exact ⟨_,rfl,eP hown2 hbe'.size,hbe'.trans (hbf.mono hbe'.size)⟩
end Go.Proofs.YthphepeniaemoaaGreat
/- The reference's snapshot as a value; biscottilaw33.Is. Conditions: as in the text. -/
namespace Go.Proofs.YthphepeniaemoaaGreat
open Go.RowKit
abbrev rkA (d i:Int) (s:Stamp) (y:RMIt):Array Value:=#[.int .i64 d,.int .i64 i,.int .i64 s.wall,.int .i64 s.count,.int .i64 s.dev,.slice y.ac y.ctx.length y.cc,.slice y.aK y.K.length y.cK,.slice y.ad y.dead.length y.cd]
abbrev rkZ:Array Value:=#[.int .i64 0,.int .i64 0,.int .i64 0,.int .i64 0,.int .i64 0,.slice none 0 0,.slice none 0 0,.slice none 0 0]
def RkZ (w:World) (X:Nat):Prop:=w.heap[X]?=some (.cells rkZ 48 (0,0))
theorem RkZ.lt {w:World} {X:Nat} (h:RkZ w X):X<w.heap.size:=lt_of_block h
theorem RkZ.below {w w':World} {X:Nat} (h:RkZ w X) (hb:Below w.heap.size w w'):RkZ w' X:=(hb.block _ h.lt).trans h
abbrev Dt (d i:Int) (s:Stamp) (y:RMIt):List Value:=[.int .i64 d,.int .i64 i,.int .i64 s.wall,.int .i64 s.count,.int .i64 s.dev,.slice y.ac y.ctx.length y.cc,.slice y.aK y.K.length y.cK,.slice y.ad y.dead.length y.cd]
theorem Md (d i:Int) (s:Stamp) (y:RMIt) (w:World) (t:TypeId):(w.alloc (Obj.cells (rkA d i s y) t)).rangeAt w.heap.size 0 (Dt d i s y):=by
 intro j u hu;rw [aw,World.cell?_alloc_new];exact (by simpa using hu)
theorem FB {d i:Int} {s:Stamp} {y:RMIt} {w:World} {b:Nat} (h:w.rangeAt b 0 (Dt d i s y)):w.rangeAt b 2 (Fh s):=fun j u hu=>by
 match j,hu with
 | 0,hu=>cases hu;exact h 2 _ rfl
 | 1,hu=>cases hu;exact h 3 _ rfl
 | 2,hu=>cases hu;exact h 4 _ rfl
theorem Vs {d i:Int} {s:Stamp} {y:RMIt} {w:World} {b:Nat} (h:w.rangeAt b 0 (Dt d i s y)):w.rangeAt b 5 [.slice y.ac y.ctx.length y.cc,.slice y.aK y.K.length y.cK,.slice y.ad y.dead.length y.cd]:=fun j u hu=>by
 match j,hu with
 | 0,hu=>cases hu;exact h 5 _ rfl
 | 1,hu=>cases hu;exact h 6 _ rfl
 | 2,hu=>cases hu;exact h 7 _ rfl
end Go.Proofs.YthphepeniaemoaaGreat
