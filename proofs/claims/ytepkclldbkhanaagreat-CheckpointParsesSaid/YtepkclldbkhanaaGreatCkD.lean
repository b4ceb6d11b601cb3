/- A snapshot laid down on a new disk, and read again; awake. Conditions: as in the text. -/
import Derived.Test.YtepkclldbkhanaaGreatRefGet
import Derived.Test.YtepkclldbkhanaaGreatCkQ
set_option linter.unusedSimpArgs false
set_option linter.unusedVariables false
set_option linter.unnecessarySimpa false
set_option maxHeartbeats 16000000
set_option maxRecDepth 100000
open Go.Proofs.Tryz
namespace Go.Proofs.YtepkclldbkhanaaGreat
open Go.RowKit
theorem Rh {w:World} {k:Nat} {v:Value} {t:TypeId} {f:Nat×Nat} (h:w.heap[k]?=some (.cells #[v] t f)) (hv:∀ c,v≠.int .u8 c):NoByte w k:=by
 intro o c e;simp only [World.cell?,h] at e;match o,e with
 | 0,e=>exact hv c (by simpa using e)
 | o+1,e=>simp at e
theorem BytesIn.frS {S:Nat→Prop} {w w':World} {m:Bytes} {a:Option Addr} (hb:BytesIn w a m) (hf:Fr S w w') (hA:∀ A off,a=some ⟨A,off,none⟩→m≠[]→¬ S A):BytesIn w' a m:=by
 rcases hb with hb | ⟨A,off,rfl,hb⟩
 ·exact Or.inl hb
 ·exact Or.inr ⟨A,off,rfl,fun j hj=>hf.kept (hb j hj) (hA A off rfl (by intro e;subst e;simp at hj))⟩
section
variable {F:Nat→Prop} {d b:Nat}
/-- what the three steps of a laying down hold: the disk, the error's cell, the disk's cell, the bytes' cell -/
structure CkW (F:Nat→Prop) (d b:Nat) (S:DS) (E P Q:Nat) (a:Option Addr) (l:Bytes) (c:Nat) (w:World):Prop where
 dk:∃ D,DkIn w F d S b D
 e:w.heap[E]?=some (.cells #[.int .i64 0] 29 (0,0))
 p:w.heap[P]?=some (.cells #[.pointer (some ⟨d,0,none⟩)] 46 (0,0))
 q:w.heap[Q]?=some (.cells #[.slice a l.length c] 22 (0,0))
 bs:BytesIn w a l
 nE:¬ F E
 nP:¬ F P
 nQ:¬ F Q
 nA:∀ A off,a=some ⟨A,off,none⟩→l≠[]→¬ F A∧A≠E
 PE:P≠E
 QE:Q≠E
theorem dQ {w:World} {E:Nat} {v:Value} {t:TypeId} (h:w.heap[E]?=some (.cells #[v] t (0,0))):w.cell? ⟨E,0,none⟩=some v∧w.frozen? ⟨E,0,none⟩=false:=by simp [World.cell?,World.frozen?,h]
/-- behind a change of the disk, and what is stored in the error's cell -/
theorem CkW.stepG {S S':DS} {E P Q:Nat} {a:Option Addr} {l:Bytes} {c:Nat} {w w' w2:World} {D':DataW Unit} (h:CkW F d b S E P Q a l c w) (hd:DkIn w' (grow F w) d S' b D') (hf:Fr F w w') (hfr:Fr (isR E) w' w2) (h2:w2.heap[E]?=some (.cells #[.int .i64 0] 29 (0,0))):CkW (grow F w) d b S' E P Q a l c w2:=by
 have hE':=(hf.block E (lt_of_block h.e) h.nE).trans h.e;have hlE:=lt_of_block h.e;have hlP:=lt_of_block h.p;have hlQ:=lt_of_block h.q;have hP':=(hf.block P hlP h.nP).trans h.p;have hQ':=(hf.block Q hlQ h.nQ).trans h.q;have ng:∀ k,¬ F k→k<w.heap.size→¬ grow F w k:=fun k h1 h2 h3=>by rcases h3 with h3 | h3;exact h1 h3;omega
 refine ⟨⟨D',hd.fr hfr (fun g hg=>by rw [show g=E from hg];exact Rh hE' (by simp)) (fun g hg hge=>ng _ h.nE hlE (hge▸hg))⟩,h2,(hfr.block P (lt_of_block hP') h.PE).trans hP',(hfr.block Q (lt_of_block hQ') h.QE).trans hQ',?_,ng _ h.nE hlE,ng _ h.nP hlP,ng _ h.nQ hlQ,?_,h.PE,h.QE⟩
 ·exact (BytesIn.frS h.bs hf (fun A off h1 h2=>(h.nA A off h1 h2).1)).frS hfr (fun A off h1 h2=>(h.nA A off h1 h2).2)
 ·intro A off h1 h2
  refine ⟨ng _ (h.nA A off h1 h2).1 ?_,(h.nA A off h1 h2).2⟩;have:=h.bs;rw [h1] at this;exact Ce this h2
theorem CkW.step {S S':DS} {E P Q:Nat} {a:Option Addr} {l:Bytes} {c:Nat} {w w':World} {D':DataW Unit} (h:CkW F d b S E P Q a l c w) (hd:DkIn w' (grow F w) d S' b D') (hf:Fr F w w'):CkW (grow F w) d b S' E P Q a l c (w'.setCell ⟨E,0,none⟩ (.int .i64 0)) :=
 h.stepG hd hf (Fr.setCell (S:=isR E) (p:=⟨E,0,none⟩) (Fr.refl _ _) (Or.inr rfl) _) (by simp [World.setCell,Array.getElem?_modify,(hf.block E (lt_of_block h.e) h.nE).trans h.e])
end
def RetCkW (F:Nat→Prop) (d b:Nat) (S':DS) (E P Q:Nat) (a:Option Addr) (l:Bytes) (c:Nat) (w:World) (x:Ending) (w':World):Prop :=
 x=.returned (.tuple #[])∧CkW (grow F w) d b S' E P Q a l c w'∧Fr (fun k=>F k∨k=E) w w'
theorem Sv {F:Nat→Prop} {d b E P Q:Nat} {a:Option Addr} {l:Bytes} {c:Nat} (w:World) (hl:l.length=14) (h:CkW F d b ⟨[],0,false⟩ E P Q a l c w) :
 Calls prog 37 #[.func (.func 38) #[] #[.pointer (some ⟨P,0,none⟩),.pointer (some ⟨Q,0,none⟩)],.pointer (some ⟨E,0,none⟩)] w (RetCkW F d b ⟨[⟨jP,l,0⟩],0,false⟩ E P Q a l c w):=by
 obtain ⟨D,hD⟩:=h.dk;have HA:Hid (∀ (X:World) (D:DataW Unit),DkIn X F d ⟨[],0,false⟩ b D→BytesIn X a l→Calls prog 39 #[.pointer (some ⟨d,0,none⟩),.string jP,.slice a l.length c] X (RetDk F d b ⟨[⟨jP,l,0⟩],0,false⟩ 0 X)):=Lib.hid fun X D h9 h8=>by have:=Ls (cap2:=c) (s:=jP) (by decide) h9 DInv.new (by omega) h8;rw [Wu l hl] at this;exact this
 clear hl;have e0:=dQ h.e;have p0:=(dQ h.p).1;have q0:=(dQ h.q).1;have H2:Hid (Calls prog 38 #[.pointer (some ⟨P,0,none⟩),.pointer (some ⟨Q,0,none⟩)] w (RetDk F d b ⟨[⟨jP,l,0⟩],0,false⟩ 0 w)):=by
  have hbs:=h.bs;unfold Hid;clear e0;go_enter func38,ntmps38;go_wp2_with (go_at_call 39;go_loud ((with_reducible refine (HA.out _ _ hD hbs).mono ?_);rintro x w1 ⟨rfl,hd1,hf1⟩))
  go_ret;exact ⟨rfl,hd1,hf1⟩
 obtain ⟨e0,ef⟩:=e0;have hE:=h.e;have HS:=Lib.hid (fun (X:World) (D':DataW Unit) (h1:DkIn X (grow F w) d ⟨[⟨jP,l,0⟩],0,false⟩ b D') (h2:Fr F w X)=>h.step h1 h2);have HE1:=Lib.hid (fun (X:World) (h2:Fr F w X)=>dQ ((h2.block E (lt_of_block hE) h.nE).trans hE));clear hD HA p0 q0 h hE;go_enter func37,ntmps37;go_wp2_with (go_at_call 38;(with_reducible refine H2.out.mono ?_);rintro x w1 ⟨rfl,⟨D1,hd1⟩,hf1⟩;obtain ⟨e1,e1f⟩:=HE1.out _ hf1)
 go_end0;exact ⟨rfl,HS.out _ _ hd1 hf1,Fr.setCell (S:=fun k=>F k∨k=E) (p:=⟨E,0,none⟩) (hf1.mono fun q _ hq=>Or.inl hq) (Or.inr (Or.inr rfl)) _⟩
theorem Su {F:Nat→Prop} {d b E P Q:Nat} {a:Option Addr} {l:Bytes} {c:Nat} (w:World) (hl:l.length=14) (h:CkW F d b ⟨[⟨jP,l,0⟩],0,false⟩ E P Q a l c w) :
 Calls prog 37 #[.func (.func 40) #[] #[.pointer (some ⟨P,0,none⟩)],.pointer (some ⟨E,0,none⟩)] w (RetCkW F d b ⟨[⟨jP,l,l.length⟩],0,false⟩ E P Q a l c w):=by
 obtain ⟨D,hD⟩:=h.dk;have HA:Hid (∀ (X:World) (D:DataW Unit),DkIn X F d ⟨[⟨jP,l,0⟩],0,false⟩ b D→BytesIn X a l→Calls prog 41 #[.pointer (some ⟨d,0,none⟩),.string jP] X (RetDk F d b ⟨[⟨jP,l,l.length⟩],0,false⟩ 0 X)):=Lib.hid fun X D h9 h8=>by have:=QF (s:=jP) (by decide) h9 (Tz l hl).arm;rw [Ws l] at this;exact this
 clear hl;have e0:=dQ h.e;have p0:=(dQ h.p).1;have q0:=(dQ h.q).1;have H2:Hid (Calls prog 40 #[.pointer (some ⟨P,0,none⟩)] w (RetDk F d b ⟨[⟨jP,l,l.length⟩],0,false⟩ 0 w)):=by
  have hbs:=h.bs;unfold Hid;clear e0;go_enter func40,ntmps40;go_wp2_with (go_at_call 41;go_loud ((with_reducible refine (HA.out _ _ hD hbs).mono ?_);rintro x w1 ⟨rfl,hd1,hf1⟩))
  go_ret;exact ⟨rfl,hd1,hf1⟩
 obtain ⟨e0,ef⟩:=e0;have hE:=h.e;have HS:=Lib.hid (fun (X:World) (D':DataW Unit) (h1:DkIn X (grow F w) d ⟨[⟨jP,l,l.length⟩],0,false⟩ b D') (h2:Fr F w X)=>h.step h1 h2);have HE1:=Lib.hid (fun (X:World) (h2:Fr F w X)=>dQ ((h2.block E (lt_of_block hE) h.nE).trans hE));clear hD HA p0 q0 h hE;go_enter func37,ntmps37;go_wp2_with (go_at_call 40;(with_reducible refine H2.out.mono ?_);rintro x w1 ⟨rfl,⟨D1,hd1⟩,hf1⟩;obtain ⟨e1,e1f⟩:=HE1.out _ hf1)
 go_end0;exact ⟨rfl,HS.out _ _ hd1 hf1,Fr.setCell (S:=fun k=>F k∨k=E) (p:=⟨E,0,none⟩) (hf1.mono fun q _ hq=>Or.inl hq) (Or.inr (Or.inr rfl)) _⟩
theorem Sr {F:Nat→Prop} {d b E P Q:Nat} {a:Option Addr} {l:Bytes} {c:Nat} (w:World) (hl:l.length=14) (h:CkW F d b ⟨[⟨jP,l,l.length⟩],0,false⟩ E P Q a l c w) :
 Calls prog 37 #[.func (.func 42) #[] #[.pointer (some ⟨P,0,none⟩)],.pointer (some ⟨E,0,none⟩)] w (RetCkW F d b ⟨[⟨kN,l,l.length⟩],0,false⟩ E P Q a l c w):=by
 obtain ⟨D,hD⟩:=h.dk;have HA:Hid (∀ (X:World) (D:DataW Unit),DkIn X F d ⟨[⟨jP,l,l.length⟩],0,false⟩ b D→BytesIn X a l→Calls prog 43 #[.pointer (some ⟨d,0,none⟩),.string jP,.string kN] X (RetDk F d b ⟨[⟨kN,l,l.length⟩],0,false⟩ 0 X)):=Lib.hid fun X D h9 h8=>by have:=Ld (s:=jP) (t:=kN) (by decide) (by decide) h9 (L8 l hl).srt.uniq (L8 l hl).arm (L8 l hl).len;rw [Wq l l.length] at this;exact this
 clear hl;have e0:=dQ h.e;have p0:=(dQ h.p).1;have q0:=(dQ h.q).1;have H2:Hid (Calls prog 42 #[.pointer (some ⟨P,0,none⟩)] w (RetDk F d b ⟨[⟨kN,l,l.length⟩],0,false⟩ 0 w)):=by
  have hbs:=h.bs;unfold Hid;clear e0;go_enter func42,ntmps42;go_wp2_with (go_at_call 43;go_loud ((with_reducible refine (HA.out _ _ hD hbs).mono ?_);rintro x w1 ⟨rfl,hd1,hf1⟩))
  go_ret;exact ⟨rfl,hd1,hf1⟩
 obtain ⟨e0,ef⟩:=e0;have hE:=h.e;have HS:=Lib.hid (fun (X:World) (D':DataW Unit) (h1:DkIn X (grow F w) d ⟨[⟨kN,l,l.length⟩],0,false⟩ b D') (h2:Fr F w X)=>h.step h1 h2);have HE1:=Lib.hid (fun (X:World) (h2:Fr F w X)=>dQ ((h2.block E (lt_of_block hE) h.nE).trans hE));clear hD HA p0 q0 h hE;go_enter func37,ntmps37;go_wp2_with (go_at_call 42;(with_reducible refine H2.out.mono ?_);rintro x w1 ⟨rfl,⟨D1,hd1⟩,hf1⟩;obtain ⟨e1,e1f⟩:=HE1.out _ hf1)
 go_end0;exact ⟨rfl,HS.out _ _ hd1 hf1,Fr.setCell (S:=fun k=>F k∨k=E) (p:=⟨E,0,none⟩) (hf1.mono fun q _ hq=>Or.inl hq) (Or.inr (Or.inr rfl)) _⟩
theorem KP {F:Nat→Prop} {d b B m:Nat} {D:DataW Unit} {mb:MB} (w:World) (hD:DkIn w F d ⟨[],0,false⟩ b D) (hF:∀ k,F k→B≤k∧k<w.heap.size) (hB:B≤w.heap.size) (hm:MpIn w m mb MS.empty) :
 Calls prog 11 #[.pointer (some ⟨d,0,none⟩),snV 3 2 ⟨9,0,0⟩ (.pointer (some ⟨m,0,none⟩))] w fun x w'=>x=.returned (.int .i64 0)∧(∃ D',DkIn w' (fun k=>B≤k) d ⟨[⟨kN,dw awB,(dw awB).length⟩],0,false⟩ b D')∧Below B w w':=by
 have HBy:Hid (∀ X,MpIn X m mb MS.empty→Calls prog 7 #[snV 3 2 ⟨9,0,0⟩ (.pointer (some ⟨m,0,none⟩))] X (MF (dw awB) X)):=Lib.hid fun X hX=>by
  have:=yJ 3 2 ⟨9,0,0⟩ X hX MInv.empty List.nodup_nil (by decide) (by decide) (by rw [L6];decide) (by decide) (by decide) (by decide) (by rw [Mc];decide);rw [Mc] at this;exact this
 have hl:=FW;generalize dw awB=l at *;have HRm:Hid (∀ (X:World) (D:DataW Unit),DkIn X F d ⟨[],0,false⟩ b D→Calls prog 36 #[.pointer (some ⟨d,0,none⟩),.string jP] X (RetDk F d b ⟨[],0,false⟩ 10 X)):=Lib.hid fun X D h9=>Le (s:=jP) (by decide) h9 DInv.new.srt.uniq (by decide);have HL:=Lib.hid hl;clear hl;have hmf:∀ (fn:Fn) (first cap:Array Value) (w:World),(Instr.makeFunc fn first cap).run prog w=.ok (.func fn first cap) w:=fun _ _ _ _=>rfl;go_enter func11,ntmps11;go_upto_region 1 with fail
 refine au (fun W hW=>?_);have hbt:Below w.heap.size w W:=by rw [hW.out];go_grown
 have p0:W.heap[w.heap.size]?=some (.cells #[.pointer (some ⟨d,0,none⟩)] 46 (0,0)):=by rw [hW.out];exact (((Below.refl _ _).alloc (Nat.le_refl _) _).block _ (by simp)).trans (dE _ _)
 have hR:W.rangeAt (w.heap.size+1) 0 (tN 3 2 ⟨9,0,0⟩ (.pointer (some ⟨m,0,none⟩))):=by
  rw [hW.out];have:=zH 3 2 ⟨9,0,0⟩ (.pointer (some ⟨m,0,none⟩)) (w.alloc (.cells #[.pointer (some ⟨d,0,none⟩)] 46)) 28;rw [show (w.alloc (.cells #[.pointer (some ⟨d,0,none⟩)] 46)).heap.size=w.heap.size+1 by simp] at this;exact this
 have hmW:=hm.kept_w hbt;have hDW:=hD.below hbt;clear hW hm hD;have c0:=(dQ p0).1;go_upto_region 4 with (first
  | ((with_reducible refine ah 28 _ (w.heap.size+1) 0 (tN 3 2 ⟨9,0,0⟩ (.pointer (some ⟨m,0,none⟩))) (snV 3 2 ⟨9,0,0⟩ (.pointer (some ⟨m,0,none⟩))) rfl _ underlying28 rfl (by kernel_rfl) hR ?_ rfl ?_);exact rfl)
  | (go_at_call 7;(with_reducible refine (HBy.out _ hmW).mono ?_);rintro x w1 ⟨v,rfl,hown,hb1⟩;obtain ⟨a,c,rfl,hin⟩:=dJ hown))
 have hlt:=fun A off (h1:a=some ⟨A,off,none⟩)=>(hown.lt A (by rw [h1];rfl)).1;have Vw:=fun A off (h1:a=some ⟨A,off,none⟩)=>(hown.lt A (by rw [h1];rfl)).2;have hzW:w.heap.size<W.heap.size:=lt_of_block p0;have hz1:=hb1.size;refine au (fun W4 hW4=>?_);have hb4:Below w1.heap.size w1 W4:=by rw [hW4.out];go_grown
 have q4:W4.heap[w1.heap.size]?=some (.cells #[.slice a l.length c] 22 (0,0)):=by rw [hW4.out];exact (((Below.refl _ _).alloc (Nat.le_refl _) _).block _ (by simp)).trans (dE _ _)
 have e4:W4.heap[w1.heap.size+1]?=some (.cells #[.int .i64 0] 29 (0,0)):=by rw [hW4.out];exact qJ _ _ _
 clear hW4;have hD4:=(hDW.below hb1).below hb4;have p4:=(hb4.block _ (by omega)).trans ((hb1.block _ hzW).trans p0);have K4:CkW F d b ⟨[],0,false⟩ (w1.heap.size+1) w.heap.size w1.heap.size a l c W4:=⟨⟨_,hD4⟩,e4,p4,q4,BytesIn.kept hin hb4,fun h=>by have:=(hF _ h).2;omega,fun h=>by have:=(hF _ h).2;omega,fun h=>by have:=(hF _ h).2;omega,fun A off h1 _=>⟨fun h=>by have:=(hF _ h).2;have:=hlt A off h1;omega,by have:=Vw A off h1;omega⟩,by omega,by omega⟩;have Rx:Below w.heap.size w W4:=below2 (below2 hbt hb1) hb4;obtain ⟨E,hE⟩:∃ E,E=w1.heap.size+1:=⟨_,rfl⟩;obtain ⟨Q,hQ⟩:∃ Q,Q=w1.heap.size:=⟨_,rfl⟩;have hES:B≤E:=by omega
 rw [← hE,← hQ] at K4 ⊢;clear hE hQ hD4 p4 q4 e4 hlt Vw hin hown hb1 hb4 hDW hmW hR c0 p0 hbt hz1 hzW HBy;obtain ⟨D4,hD4⟩:=K4.dk;have e0:=dQ K4.e;have c0:=(dQ K4.p).1;obtain ⟨e0,ef0⟩:=e0;have HE1:=Lib.hid (fun (X:World) (h2:Fr F W4 X)=>(h2.block E (lt_of_block K4.e) K4.nE).trans K4.e);go_upto_region 7 with (go_at_call 36;(with_reducible refine (HRm.out _ _ hD4).mono ?_);rintro x w5 ⟨rfl,⟨D5,hd5⟩,hf5⟩;have e5c:=HE1.out _ hf5;obtain ⟨e5,e5f⟩:=dQ e5c)
 go_upto_region 9 with fail
 refine au (fun W8 hW8=>?_);have Uc:Fr (isR E) w5 W8:=by rw [hW8.out];exact Fr.setCell (S:=isR E) (p:=⟨E,0,none⟩) (Fr.setCell (S:=isR E) (p:=⟨E,0,none⟩) (Fr.refl _ _) (Or.inr rfl) _) (Or.inr rfl) _
 have e8:W8.heap[E]?=some (.cells #[.int .i64 0] 29 (0,0)):=by rw [hW8.out];simp [World.setCell,Array.getElem?_modify,e5c]
 have K8:=K4.stepG hd5 hf5 Uc e8;have VI:Below B W4 W8:=(hf5.below (Nat.le_trans hB Rx.size) (fun k hk=>(hF k hk).1)).trans (Uc.below (Nat.le_trans (Nat.le_trans hB Rx.size) hf5.size) (fun k hk=>by rw [show k=E from hk];exact hES));have hG:∀ k,grow F W4 k→B≤k:=fun k hk=>by rcases hk with hk | hk;exact (hF k hk).1;exact Nat.le_trans (Nat.le_trans hB Rx.size) hk
 have hb8:Below B w W8:=(Rx.mono hB).trans VI;clear hW8 Uc e8 e5 e5f e5c HE1 hd5 hf5 e0 ef0 c0 hD4 K4 VI HRm;have hz8:B≤W8.heap.size:=Nat.le_trans hB hb8.size;go_upto_region 11 with (go_at_call 37;(refine (Sv _ HL.out K8).mono ?_);rintro x w9 ⟨rfl,K9,hf9⟩)
 have hb9:=hb8.trans (hf9.below hz8 (fun k hk=>by rcases hk with hk | hk;exact hG k hk;rw [hk];exact hES));have hG9:∀ k,grow (grow F W4) W8 k→B≤k:=fun k hk=>by rcases hk with hk | hk;exact hG k hk;exact Nat.le_trans hz8 hk
 have hz9:B≤w9.heap.size:=Nat.le_trans hB hb9.size;clear K8 hf9 hb8 hG;go_upto_region 12 with (go_at_call 37;(refine (Su _ HL.out K9).mono ?_);rintro x w10 ⟨rfl,K10,VD⟩)
 have qW:=hb9.trans (VD.below hz9 (fun k hk=>by rcases hk with hk | hk;exact hG9 k hk;rw [hk];exact hES));have VT:∀ k,grow (grow (grow F W4) W8) w9 k→B≤k:=fun k hk=>by rcases hk with hk | hk;exact hG9 k hk;exact Nat.le_trans hz9 hk
 have U0:B≤w10.heap.size:=Nat.le_trans hB qW.size;clear K9 VD hb9 hG9;go_upto_region 13 with (go_at_call 37;(refine (Sr _ HL.out K10).mono ?_);rintro x w11 ⟨rfl,K11,W9⟩)
 have Xg:=qW.trans (W9.below U0 (fun k hk=>by rcases hk with hk | hk;exact VT k hk;rw [hk];exact hES));obtain ⟨e9,-⟩:=dQ K11.e;obtain ⟨D11,Xm⟩:=K11.dk;go_wp2;go_ret;exact ⟨rfl,⟨D11,Xm.mono fun k hk=>by rcases hk with hk | hk;exact VT k hk;exact Nat.le_trans U0 hk⟩,Xg⟩
theorem OG {F:Nat→Prop} {d b:Nat} {D:DataW Unit} (w:World) (hD:DkIn w F d ⟨[⟨kN,dw awB,(dw awB).length⟩],0,false⟩ b D) :
 Calls prog 14 #[.pointer (some ⟨d,0,none⟩)] w fun x w'=>(∃ m bm t,x=.returned (.tuple #[.agg (snA 3 2 ⟨9,0,0⟩ (.pointer (some ⟨m,0,none⟩))),.int .i64 0])∧MpIn w' m bm t∧t.K.length=0)∧Below w.heap.size w w':=by
 have HP:Hid (∀ (X:World) (a:Option Addr) (c:Nat),(dw awB).length≤c→BytesIn X a (dw awB)→Calls prog 5 #[.slice a (dw awB).length c] X fun x w'=>(∃ m bm t,x=.returned (.tuple #[.agg (snA 3 2 ⟨9,0,0⟩ (.pointer (some ⟨m,0,none⟩))),.int .i64 0])∧MpIn w' m bm t∧t.K.length=0∧(∀ q,foot bm t.A q→X.heap.size≤q)∧∀ x∈t.K,I9 X.heap.size x)∧Below X.heap.size X w'):=Lib.hid fun X a c hc hX =>
  (yI a c (dw awB) X (by rw [FW];decide) hc hX UB SA SB).mono fun x w' h=>by
   obtain ⟨_,h2,h3⟩:=h;obtain ⟨m,bm,t,g1,g2,_,_,_,g6,g7,g8⟩:=h2 (by unfold ckE;rw [Wn];rfl);exact ⟨⟨m,bm,t,g1,g2,by cases hK:t.K with | nil=>rfl | cons y l=>exact absurd (g6 y (by rw [hK];simp)) (by simp),g7,g8⟩,h3⟩
 have Ul:=fun (X:World) (D:DataW Unit) (h9:DkIn X F d ⟨[⟨kN,dw awB,(dw awB).length⟩],0,false⟩ b D)=>QL (f:=⟨kN,dw awB,(dw awB).length⟩) (s:=kN) (by decide) h9 (by decide) (by rfl) (by rfl) (by rw [FW];decide);simp only at Ul;have HR:=Lib.hid Ul;clear Ul;generalize dw awB=l at *;go_enter func14,ntmps14;go_upto_region 1 with fail
 refine au (fun W hW=>?_);have hbt:Below w.heap.size w W:=by rw [hW.out];exact (Below.refl _ _).alloc (Nat.le_refl _) _
 have hZ:SnBlk W w.heap.size 0 0 st0 (.pointer none):=by rw [hW.out];exact heap_alloc_last w _
 have hDW:=hD.below hbt;clear hW hD;go_upto_region 4 with (go_at_call 47;(with_reducible refine (HR.out _ _ hDW).mono ?_);rintro x w1 ⟨v,rfl,hown,hb1⟩)
 obtain ⟨ab,cb,rfl,Hw⟩:=dJ hown;have hcb:=Az hown;replace hZ:=hZ.below hb1;replace hbt:=below2 hbt hb1;have hZl:=hZ.lt;clear hown hb1 hDW HR;go_wp2_with (first
  | (go_at_call 5;(with_reducible refine (HP.out _ _ _ hcb Hw).mono ?_);rintro x w2 ⟨⟨m,bm,t,rfl,hm,hK,hfo,hlo⟩,hb2⟩;have hZ2:=hZ.below hb2)
  | (refine wpList_store_row rfl 28 _ _ rfl w.heap.size (snA 3 2 ⟨9,0,0⟩ (.pointer (some ⟨m,0,none⟩))) rfl rfl 28 (snA 0 0 st0 (.pointer none)) hZ2 (by kernel_rfl) rfl (by kernel_rfl) ?_))
 refine dK 2 3 28 28 w.heap.size (snA 3 2 ⟨9,0,0⟩ (.pointer (some ⟨m,0,none⟩))) _ (.int .i64 0) rfl rfl rfl (setRow_heap _ _ _ _ _ _ hZ2) underlying28 rfl (by kernel_rfl) rfl ?_;exact ⟨⟨m,bm,t,rfl,hm.cellAt hZ2 hZl (fun q hq=>aI _ _ _ _ (fun e=>hq e.symm)) hfo hlo,hK⟩,below_setRow (below2 hbt hb2) (Nat.le_refl _) _⟩
theorem IV (w:World):Calls prog 4 #[] w fun e w'=>e=.returned (.bool true)∧Below w.heap.size w w':=by
 have HN:=Lib.hid (SK w);have HM:=Lib.hid (fun X=>GZ X);have HCr:Hid (∀ (X:World) (F:Nat→Prop) (d b:Nat) (D:DataW Unit),DkIn X F d ⟨[⟨kN,dw awB,(dw awB).length⟩],0,false⟩ b D→Calls prog 13 #[.pointer (some ⟨d,0,none⟩),.slice none 0 0] X fun e w'=>e=.returned (.tuple #[])∧DkIn w' F d ⟨[⟨kN,dw awB,(dw awB).length⟩],0,false⟩ b D∧Fr F X w'):=Lib.hid fun X F d b D h=>by
  have:=O3 (ak:=none) (ck:=0) [] h (Wp _ FW) (by simp) (fun p hp=>(nomatch hp)) (Or.inl rfl);rw [Xo] at this;exact this
 go_enter func4,ntmps4;go_upto_region 2 with (go_at_call 10;(with_reducible refine HN.out.mono ?_);rintro e w1 ⟨rfl,hD1,hb1⟩)
 have hT:=hD1.tight;have hz1:=hb1.size;clear hD1 HN;go_upto_region 3 with (first
  | (refine Great.wpList_buildTo rfl 25 _ rfl _ rfl #[.int .i64 9,.int .i64 0,.int .i64 0] (by kernel_rfl) ?_)
  | (go_at_call 12;(with_reducible refine (HM.out _).mono ?_);rintro e w2 ⟨m,mb,rfl,hm,hb2,-,-⟩;have HW:=Lib.hid (KP (B:=w.heap.size) w2 (hT.below hb2) (fun k hk=>⟨hk.1,Nat.lt_of_lt_of_le hk.2 hb2.size⟩) (Nat.le_trans hz1 hb2.size) hm))
  | (refine Great.wpList_buildTo rfl 28 _ rfl _ rfl (snA 3 2 ⟨9,0,0⟩ (.pointer (some ⟨m,0,none⟩))) (by kernel_rfl) ?_)
  | (go_at_call 11;(refine HW.out.mono ?_);rintro e w3 ⟨rfl,⟨D3,hD3⟩,hb3⟩))
 have Ui:Below w.heap.size w w3:=(hb1.trans (hb2.mono hz1)).trans hb3;have hz3:=Ui.size;clear HW hm hT HM hb2 hb3 hb1;go_upto_region 4 with (go_at_call 13;(with_reducible refine (HCr.out _ _ _ _ _ hD3).mono ?_);rintro e w4 ⟨rfl,hD4,hf4⟩)
 have hb4:Below w.heap.size w w4:=Ui.trans (hf4.below hz3 (fun k hk=>hk));have hz4:=hb4.size;have HRd:=Lib.hid (OG w4 hD4);clear hD3 hD4 hf4 Ui HCr;go_upto_region 5 with (first
  | (go_at_call 14;(with_reducible refine HRd.out.mono ?_);rintro e w5 ⟨⟨m5,bm,t,rfl,hm5,hK⟩,hb5⟩)
  | (refine aB 28 _ _ _ (snA 3 2 ⟨9,0,0⟩ (.pointer (some ⟨m5,0,none⟩))) rfl rfl (by kernel_rfl) rfl (by kernel_rfl) ?_))
 refine au (fun W hW=>?_);have hbW:Below w5.heap.size w5 W:=by rw [hW.out];exact (Below.refl _ _).alloc (Nat.le_refl _) _
 have hR:W.rangeAt w5.heap.size 0 (tN 3 2 ⟨9,0,0⟩ (.pointer (some ⟨m5,0,none⟩))):=by rw [hW.out];exact zH _ _ _ _ _ _
 have hL:=G5 W (hm5.kept_w hbW);rw [hK] at hL;have HL:Hid (Calls prog 15 #[.pointer (some ⟨m5,0,none⟩)] W fun e w'=>e=.returned (.int .i64 0)∧W=w'):=Lib.hid hL;have hb6:=hb4.trans ((below2 hb5 hbW).mono hz4);have r0:W.cell? ⟨w5.heap.size,0,none⟩=some (.int .i64 3):=hR 0 _ rfl;have r1:W.cell? ⟨w5.heap.size,1,none⟩=some (.int .i64 2):=hR 1 _ rfl;have r2:W.cell? ⟨w5.heap.size,2,none⟩=some (.int .i64 9):=hR 2 _ rfl;have r5:W.cell? ⟨w5.heap.size,5,none⟩=some (.pointer (some ⟨m5,0,none⟩)):=hR 5 _ rfl;clear hW hR hL hK hm5 hbW hb5 hb4 HRd;go_wp2_with (go_at_call 15;(with_reducible refine HL.out.mono ?_);rintro e w7 ⟨rfl,rfl⟩)
 go_ret;exact ⟨rfl,hb6⟩
end Go.Proofs.YtepkclldbkhanaaGreat
