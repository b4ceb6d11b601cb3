/- checkpoint.Write of any snapshot on any disk. Conditions: as in the text. -/
import Derived.Test.YthphepeniaemoaaGreatCkB
import Derived.Test.YthphepeniaemoaaGreatDAwake
set_option linter.unusedSimpArgs false
set_option linter.unusedVariables false
set_option linter.unnecessarySimpa false
set_option maxHeartbeats 16000000
set_option maxRecDepth 100000
open Go.Proofs.Tryz
namespace Go.Proofs.YthphepeniaemoaaGreat
open Go.RowKit
abbrev dH:ByteArray:=⟨#[116,109,112]⟩
abbrev kF:ByteArray:=⟨#[99,107,112,116]⟩
theorem Sl {w:World} {k:Nat} {v:Value} {t:TypeId} {f:Nat×Nat} (h:w.heap[k]?=some (.cells #[v] t f)) (hv:∀ c,v≠.int .u8 c):NoByte w k:=by
 intro o c e;simp only [World.cell?,h] at e;match o,e with
 | 0,e=>exact hv c (by simpa using e)
 | o+1,e=>simp at e
theorem BytesIn.frS {S:Nat->Prop} {w w':World} {m:Bytes} {a:Option Addr} (hb:BytesIn w a m) (hf:Fr S w w') (hA:∀ A off,a=some ⟨A,off,none⟩->m≠[]->¬ S A):BytesIn w' a m:=by
 rcases hb with hb | ⟨A,off,rfl,hb⟩
 ·exact bb hb
 ·exact bd ⟨A,off,rfl,fun j hj=>hf.kept (hb j hj) (hA A off rfl (by intro e;subst e;simp at hj))⟩
theorem dV {w:World} {E:Nat} {v:Value} {t:TypeId} (h:w.heap[E]?=some (.cells #[v] t (0,0))):w.cell? ⟨E,0,none⟩=some v/\w.frozen? ⟨E,0,none⟩=false:=by simp [World.cell?,World.frozen?,h]
/-- one more step, if all went well -/
def thenS (f:DS->DS×Int) (r:DS×Int):DS×Int:=if r.2=0 then f r.1 else r
def rmS (S:DS):DS×Int:=if (S.remove dH).2=10 then ((S.remove dH).1,0) else S.remove dH
/-- bytes laid down: the disk behind it, and the error -/
def layS (S:DS) (l:Bytes):DS×Int:=thenS (fun S=>S.rename dH kF) (thenS (fun S=>S.sync dH) (thenS (fun S=>S.append dH l) (rmS S)))
theorem nU {f:DS->DS×Int} {S:DS} {e:Int} (h:¬ e=0):thenS f (S,e)=(S,e):=if_neg h
theorem DInv.thenS {f:DS->DS×Int} {r:DS×Int} (h:DInv r.1) (hf:∀ S,DInv S->DInv (f S).1):DInv (thenS f r).1:=by
 unfold Go.Proofs.YthphepeniaemoaaGreat.thenS;split
 ·exact hf _ h
 ·exact h
theorem DInv.rmS {S:DS} (h:DInv S):DInv (rmS S).1:=by
 unfold Go.Proofs.YthphepeniaemoaaGreat.rmS;split
 ·exact h.remove dH
 ·exact h.remove dH
theorem DInv.layS {S:DS} (h:DInv S) (l:Bytes):DInv (layS S l).1:=((h.rmS.thenS fun S h=>h.append dH l).thenS fun S h=>h.sync dH).thenS fun S h=>h.rename dH kF
section
variable {F:Nat->Prop} {d b:Nat}
/-- what the three steps of a laying down hold -/
structure CkX (F:Nat->Prop) (d b:Nat) (r:DS×Int) (E P Q:Nat) (a:Option Addr) (l:Bytes) (c:Nat) (w:World):Prop where
 dk:∃ D,DkIn w F d r.1 b D
 e:w.heap[E]?=some (.cells #[.int .i64 r.2] 36 (0,0))
 p:w.heap[P]?=some (.cells #[.pointer (some ⟨d,0,none⟩)] 25 (0,0))
 q:w.heap[Q]?=some (.cells #[.slice a l.length c] 54 (0,0))
 bs:BytesIn w a l
 nE:¬ F E
 nP:¬ F P
 nQ:¬ F Q
 nA:∀ A off,a=some ⟨A,off,none⟩->l≠[]->¬ F A/\A≠E
 PE:P≠E
 QE:Q≠E
theorem CkX.stepG {r r':DS×Int} {E P Q:Nat} {a:Option Addr} {l:Bytes} {c:Nat} {w w' w2:World} {D':DataW Unit} (h:CkX F d b r E P Q a l c w) (hd:DkIn w' (grow F w) d r'.1 b D') (hf:Fr F w w') (hfr:Fr (isR E) w' w2) (h2:w2.heap[E]?=some (.cells #[.int .i64 r'.2] 36 (0,0))):CkX (grow F w) d b r' E P Q a l c w2:=by
 have hE':=(hf.block E (lt_of_block h.e) h.nE).trans h.e;have hlE:=lt_of_block h.e;have hlP:=lt_of_block h.p;have hlQ:=lt_of_block h.q;have hP':=(hf.block P hlP h.nP).trans h.p;have hQ':=(hf.block Q hlQ h.nQ).trans h.q;have ng:∀ k,¬ F k->k<w.heap.size->¬ grow F w k:=fun k h1 h2 h3=>by rcases h3 with h3 | h3;exact h1 h3;omega
 refine ⟨⟨D',hd.fr hfr (fun g hg=>by rw [show g=E from hg];exact Sl hE' (by simp)) (fun g hg hge=>ng _ h.nE hlE (hge▸hg))⟩,h2,(hfr.block P (lt_of_block hP') h.PE).trans hP',(hfr.block Q (lt_of_block hQ') h.QE).trans hQ',?_,ng _ h.nE hlE,ng _ h.nP hlP,ng _ h.nQ hlQ,?_,h.PE,h.QE⟩
 ·exact (BytesIn.frS h.bs hf (fun A off h1 h2=>(h.nA A off h1 h2).1)).frS hfr (fun A off h1 h2=>(h.nA A off h1 h2).2)
 ·intro A off h1 h2
  refine ⟨ng _ (h.nA A off h1 h2).1 ?_,(h.nA A off h1 h2).2⟩;have:=h.bs;rw [h1] at this;exact vU this h2
theorem CkX.step {r r':DS×Int} {E P Q:Nat} {a:Option Addr} {l:Bytes} {c:Nat} {w w':World} {D':DataW Unit} (h:CkX F d b r E P Q a l c w) (hd:DkIn w' (grow F w) d r'.1 b D') (hf:Fr F w w'):CkX (grow F w) d b r' E P Q a l c (w'.setCell ⟨E,0,none⟩ (.int .i64 r'.2)) :=
 h.stepG hd hf (Fr.setCell (S:=isR E) (p:=⟨E,0,none⟩) (Fr.refl _ _) (bd rfl) _) (by simp [World.setCell,Array.getElem?_modify,(hf.block E (lt_of_block h.e) h.nE).trans h.e])
theorem CkX.stay {r:DS×Int} {E P Q:Nat} {a:Option Addr} {l:Bytes} {c:Nat} {w:World} (h:CkX F d b r E P Q a l c w):CkX (grow F w) d b r E P Q a l c w:=by
 have ng:∀ k,¬ F k->k<w.heap.size->¬ grow F w k:=fun k h1 h2 h3=>by rcases h3 with h3 | h3;exact h1 h3;omega
 obtain ⟨D,hD⟩:=h.dk;refine ⟨⟨D,hD.mono fun _ g=>bb g⟩,h.e,h.p,h.q,h.bs,ng _ h.nE (lt_of_block h.e),ng _ h.nP (lt_of_block h.p),ng _ h.nQ (lt_of_block h.q),fun A off h1 h2=>⟨ng _ (h.nA A off h1 h2).1 ?_,(h.nA A off h1 h2).2⟩,h.PE,h.QE⟩;have:=h.bs;rw [h1] at this;exact vU this h2
end
def RetCkX (F:Nat->Prop) (d b:Nat) (r':DS×Int) (E P Q:Nat) (a:Option Addr) (l:Bytes) (c:Nat) (w:World) (x:Ending) (w':World):Prop :=
 x=.returned (.tuple #[])/\CkX (grow F w) d b r' E P Q a l c w'/\Fr (fun k=>F k\/k=E) w w'
theorem z53 {p : Prop} (h : p := by
 rw [nU hz]
 obtain ⟨e0, ef⟩ := dV h.e
 have q1 : (e == 0) = false := beq_eq_false_iff_ne.2 hz
 have HS := aq h.stay
 clear h hi hz hl
 go_enter func26, ntmps26
 go_wp2
 go_end0
 exact ⟨rfl, HS.out, Fr.refl _ _⟩) : p := h
theorem WJ {F:Nat->Prop} {d b E P Q:Nat} {a:Option Addr} {l:Bytes} {c:Nat} {r:DS×Int} (w:World) (hl:l.length<=1048600) (hi:DInv r.1) (h:CkX F d b r E P Q a l c w) :
 Calls prog 26 #[.func (.func 27) #[] #[.pointer (some ⟨P,0,none⟩),.pointer (some ⟨Q,0,none⟩)],.pointer (some ⟨E,0,none⟩)] w (RetCkX F d b (thenS (fun S=>S.append dH l) r) E P Q a l c w):=by
 obtain ⟨S,e⟩:=r;by_cases hz:e=0
 case neg =>
  exact z53
 subst hz;obtain ⟨S1,e1,hS1⟩:∃ S1 e1,S.append dH l=(S1,e1):=⟨_,_,rfl⟩;have hth:thenS (fun S=>S.append dH l) (S,0)=(S1,e1):=hS1;rw [hth];clear hth;obtain ⟨D,hD⟩:=h.dk;have HA:Hid (∀ (X:World) (D:DataW Unit),DkIn X F d S b D->BytesIn X a l->Calls prog 28 #[.pointer (some ⟨d,0,none⟩),.string dH,.slice a l.length c] X (RetDk F d b S1 e1 X)):=aq fun X D h9 h8=>by
  have:=LY (cap2:=c) (s:=dH) (by decide) h9 hi (by omega) h8;rwa [hS1] at this
 clear hl hi hS1;have e0:=dV h.e;have p0:=(dV h.p).1;have q0:=(dV h.q).1;have H2:Hid (Calls prog 27 #[.pointer (some ⟨P,0,none⟩),.pointer (some ⟨Q,0,none⟩)] w (RetDk F d b S1 e1 w)):=by
  have hbs:=h.bs;unfold Hid;clear e0;go_enter func27,ntmps27;go_wp2_with (go_at_call 28;go_loud ((with_reducible refine (HA.out _ _ hD hbs).mono ?_);rintro x w1 ⟨rfl,hd1,hf1⟩))
  go_ret;exact ⟨rfl,hd1,hf1⟩
 obtain ⟨e0,ef⟩:=e0;have hE:=h.e;have HS:=aq (fun (X:World) (D':DataW Unit) (h1:DkIn X (grow F w) d S1 b D') (h2:Fr F w X)=>h.step (r':=(S1,e1)) h1 h2);have HE1:=aq (fun (X:World) (h2:Fr F w X)=>dV ((h2.block E (lt_of_block hE) h.nE).trans hE));clear hD HA p0 q0 h hE;go_enter func26,ntmps26;go_wp2_with (go_at_call 27;(with_reducible refine H2.out.mono ?_);rintro x w1 ⟨rfl,⟨D1,hd1⟩,hf1⟩;obtain ⟨e2,e2f⟩:=HE1.out _ hf1)
 go_end0;exact ⟨rfl,HS.out _ _ hd1 hf1,Fr.setCell (S:=fun k=>F k\/k=E) (p:=⟨E,0,none⟩) (hf1.mono fun q _ hq=>bb hq) (bd (bd rfl)) _⟩
theorem WI {F:Nat->Prop} {d b E P Q:Nat} {a:Option Addr} {l:Bytes} {c:Nat} {r:DS×Int} (w:World) (hl:l.length<=1048600) (hi:DInv r.1) (h:CkX F d b r E P Q a l c w) :
 Calls prog 26 #[.func (.func 29) #[] #[.pointer (some ⟨P,0,none⟩)],.pointer (some ⟨E,0,none⟩)] w (RetCkX F d b (thenS (fun S=>S.sync dH) r) E P Q a l c w):=by
 obtain ⟨S,e⟩:=r;by_cases hz:e=0
 case neg =>
  exact z53
 subst hz;obtain ⟨S1,e1,hS1⟩:∃ S1 e1,S.sync dH=(S1,e1):=⟨_,_,rfl⟩;have hth:thenS (fun S=>S.sync dH) (S,0)=(S1,e1):=hS1;rw [hth];clear hth;obtain ⟨D,hD⟩:=h.dk;have HA:Hid (∀ (X:World) (D:DataW Unit),DkIn X F d S b D->BytesIn X a l->Calls prog 30 #[.pointer (some ⟨d,0,none⟩),.string dH] X (RetDk F d b S1 e1 X)):=aq fun X D h9 h8=>by
  have:=Ri (s:=dH) (by decide) h9 hi.arm;rwa [hS1] at this
 clear hl hi hS1;have e0:=dV h.e;have p0:=(dV h.p).1;have q0:=(dV h.q).1;have H2:Hid (Calls prog 29 #[.pointer (some ⟨P,0,none⟩)] w (RetDk F d b S1 e1 w)):=by
  have hbs:=h.bs;unfold Hid;clear e0;go_enter func29,ntmps29;go_wp2_with (go_at_call 30;go_loud ((with_reducible refine (HA.out _ _ hD hbs).mono ?_);rintro x w1 ⟨rfl,hd1,hf1⟩))
  go_ret;exact ⟨rfl,hd1,hf1⟩
 obtain ⟨e0,ef⟩:=e0;have hE:=h.e;have HS:=aq (fun (X:World) (D':DataW Unit) (h1:DkIn X (grow F w) d S1 b D') (h2:Fr F w X)=>h.step (r':=(S1,e1)) h1 h2);have HE1:=aq (fun (X:World) (h2:Fr F w X)=>dV ((h2.block E (lt_of_block hE) h.nE).trans hE));clear hD HA p0 q0 h hE;go_enter func26,ntmps26;go_wp2_with (go_at_call 29;(with_reducible refine H2.out.mono ?_);rintro x w1 ⟨rfl,⟨D1,hd1⟩,hf1⟩;obtain ⟨e2,e2f⟩:=HE1.out _ hf1)
 go_end0;exact ⟨rfl,HS.out _ _ hd1 hf1,Fr.setCell (S:=fun k=>F k\/k=E) (p:=⟨E,0,none⟩) (hf1.mono fun q _ hq=>bb hq) (bd (bd rfl)) _⟩
theorem WH {F:Nat->Prop} {d b E P Q:Nat} {a:Option Addr} {l:Bytes} {c:Nat} {r:DS×Int} (w:World) (hl:l.length<=1048600) (hi:DInv r.1) (h:CkX F d b r E P Q a l c w) :
 Calls prog 26 #[.func (.func 31) #[] #[.pointer (some ⟨P,0,none⟩)],.pointer (some ⟨E,0,none⟩)] w (RetCkX F d b (thenS (fun S=>S.rename dH kF) r) E P Q a l c w):=by
 obtain ⟨S,e⟩:=r;by_cases hz:e=0
 case neg =>
  exact z53
 subst hz;obtain ⟨S1,e1,hS1⟩:∃ S1 e1,S.rename dH kF=(S1,e1):=⟨_,_,rfl⟩;have hth:thenS (fun S=>S.rename dH kF) (S,0)=(S1,e1):=hS1;rw [hth];clear hth;obtain ⟨D,hD⟩:=h.dk;have HA:Hid (∀ (X:World) (D:DataW Unit),DkIn X F d S b D->BytesIn X a l->Calls prog 32 #[.pointer (some ⟨d,0,none⟩),.string dH,.string kF] X (RetDk F d b S1 e1 X)):=aq fun X D h9 h8=>by
  have:=LK (s:=dH) (t:=kF) (by decide) (by decide) h9 hi.srt.uniq hi.arm hi.len;rwa [hS1] at this
 clear hl hi hS1;have e0:=dV h.e;have p0:=(dV h.p).1;have q0:=(dV h.q).1;have H2:Hid (Calls prog 31 #[.pointer (some ⟨P,0,none⟩)] w (RetDk F d b S1 e1 w)):=by
  have hbs:=h.bs;unfold Hid;clear e0;go_enter func31,ntmps31;go_wp2_with (go_at_call 32;go_loud ((with_reducible refine (HA.out _ _ hD hbs).mono ?_);rintro x w1 ⟨rfl,hd1,hf1⟩))
  go_ret;exact ⟨rfl,hd1,hf1⟩
 obtain ⟨e0,ef⟩:=e0;have hE:=h.e;have HS:=aq (fun (X:World) (D':DataW Unit) (h1:DkIn X (grow F w) d S1 b D') (h2:Fr F w X)=>h.step (r':=(S1,e1)) h1 h2);have HE1:=aq (fun (X:World) (h2:Fr F w X)=>dV ((h2.block E (lt_of_block hE) h.nE).trans hE));clear hD HA p0 q0 h hE;go_enter func26,ntmps26;go_wp2_with (go_at_call 31;(with_reducible refine H2.out.mono ?_);rintro x w1 ⟨rfl,⟨D1,hd1⟩,hf1⟩;obtain ⟨e2,e2f⟩:=HE1.out _ hf1)
 go_end0;exact ⟨rfl,HS.out _ _ hd1 hf1,Fr.setCell (S:=fun k=>F k\/k=E) (p:=⟨E,0,none⟩) (hf1.mono fun q _ hq=>bb hq) (bd (bd rfl)) _⟩
theorem z21 {p : Prop} (h : p := by
 obtain ⟨K8, hf8⟩ := HT.out W8 Oy e8
 clear hW8 Oy e8 e5 e5f HT HC
 have hz8 := hf8.size
 go_upto_region 11 with (go_at_call 26; (refine (WJ _ HL.out HI.out.rmS K8).mono ?_); rintro x w9 ⟨rfl, K9, hf9⟩)
 have UO := hf8.trans (hf9.mono fun k _ hk => by rcases hk with hk | hk; exact hG k hk; exact bd (by rw [hk]; exact hES))
 have hG9 : ∀ k, grow (grow F W4) W8 k -> F k \/ w.heap.size <= k := fun k hk => by rcases hk with hk | hk; exact hG k hk; exact bd (Nat.le_trans hz8 hk)
 have hz9 := UO.size
 clear K8 hf9 hf8 hG
 go_upto_region 12 with (go_at_call 26; (refine (WI _ HL.out (HI.out.rmS.thenS fun S h => h.append dH l) K9).mono ?_); rintro x w10 ⟨rfl, K10, V4⟩)
 have Qy := UO.trans (V4.mono fun k _ hk => by rcases hk with hk | hk; exact hG9 k hk; exact bd (by rw [hk]; exact hES))
 have Ws : ∀ k, grow (grow (grow F W4) W8) w9 k -> F k \/ w.heap.size <= k := fun k hk => by rcases hk with hk | hk; exact hG9 k hk; exact bd (Nat.le_trans hz9 hk)
 have WU := Qy.size
 clear K9 V4 UO hG9
 go_upto_region 13 with (go_at_call 26; (refine (WH _ HL.out ((HI.out.rmS.thenS fun S h => h.append dH l).thenS fun S h => h.sync dH) K10).mono ?_); rintro x w11 ⟨rfl, K11, VZ⟩)
 have V5 := Qy.trans (VZ.mono fun k _ hk => by rcases hk with hk | hk; exact Ws k hk; exact bd (by rw [hk]; exact hES))
 rw [<- HLS.out] at K11
 obtain ⟨e9, -⟩ := dV K11.e
 obtain ⟨D11, Xu⟩ := K11.dk
 clear K10 Qy K11 VZ
 go_wp2
 go_ret
 exact ⟨rfl, ⟨D11, Xu.mono fun k hk => by rcases hk with hk | hk; exact Ws k hk; exact bd (Nat.le_trans WU hk)⟩, V5⟩) : p := h
theorem zy {F:Nat->Prop} {d b B:Nat} {S:DS} {D:DataW Unit} {dv ic:Int} {st:Stamp} {pv:Value} {l:Bytes} (w:World) (hD:DkIn w F d S b D) (hi:DInv S) (hF:∀ k,F k->B<=k/\k<w.heap.size) (hB:B<=w.heap.size) (hl:l.length<=1048600) (HBy:∀ X,Below w.heap.size w X->Calls prog 24 #[snV dv ic st pv] X (MX l X)) :
 Calls prog 11 #[.pointer (some ⟨d,0,none⟩),snV dv ic st pv] w fun x w'=>x=.returned (.int .i64 (layS S l).2)/\(∃ D',DkIn w' (fun k=>F k\/w.heap.size<=k) d (layS S l).1 b D')/\Fr F w w':=by
 have HBy:=aq HBy;have HRm:Hid (∀ (X:World) (D:DataW Unit),DkIn X F d S b D->Calls prog 25 #[.pointer (some ⟨d,0,none⟩),.string dH] X (RetDk F d b (S.remove dH).1 (S.remove dH).2 X)):=aq fun X D h9=>LM (s:=dH) (by decide) h9 hi.srt.uniq hi.arm;have HL:=aq hl;have HI:=aq hi;have HLS:Hid (layS S l=thenS (fun S=>S.rename dH kF) (thenS (fun S=>S.sync dH) (thenS (fun S=>S.append dH l) (rmS S)))):=aq rfl;generalize layS S l=RR at HLS;have HRS:Hid (rmS S=if (S.remove dH).2=10 then ((S.remove dH).1,0) else S.remove dH):=aq rfl;obtain ⟨S5,e5v,hSe⟩:∃ S5 e5,S.remove dH=(S5,e5):=⟨_,_,rfl⟩;rw [hSe] at HRm HRS;simp only at HRm HRS;clear hl hi hSe;have hmf:∀ (fn:Fn) (first cap:Array Value) (w:World),(Instr.makeFunc fn first cap).run prog w=.ok (.func fn first cap) w:=fun _ _ _ _=>rfl;go_enter func11,ntmps11;go_upto_region 1 with fail
 refine aI (fun W hW=>?_);have hbt:Below w.heap.size w W:=by rw [hW.out];go_grown
 have p0:W.heap[w.heap.size]?=some (.cells #[.pointer (some ⟨d,0,none⟩)] 25 (0,0)):=by rw [hW.out];exact (((bh _ _).alloc (ar _) _).block _ (by simp)).trans (aY _ _)
 have hR:W.rangeAt (w.heap.size+1) 0 (lU dv ic st pv):=by
  rw [hW.out];have:=uK dv ic st pv (w.alloc (.cells #[.pointer (some ⟨d,0,none⟩)] 25)) 42;rw [show (w.alloc (.cells #[.pointer (some ⟨d,0,none⟩)] 25)).heap.size=w.heap.size+1 by simp] at this;exact this
 have hDW:=hD.below hbt;have HBW:=aq (HBy.out W hbt);clear hW hD HBy;have c0:=(dV p0).1;go_upto_region 4 with (first
  | ((with_reducible refine bT 42 _ (w.heap.size+1) 0 (lU dv ic st pv) (snV dv ic st pv) rfl _ underlying42 rfl (by kernel_rfl) hR ?_ rfl ?_);exact rfl)
  | (go_at_call 24;(with_reducible refine HBW.out.mono ?_);rintro x w1 ⟨v,rfl,hown,hb1⟩;obtain ⟨a,c,rfl,hin⟩:=bP hown))
 have hlt:=fun A off (h1:a=some ⟨A,off,none⟩)=>(hown.lt A (by rw [h1];rfl)).1;have VO:=fun A off (h1:a=some ⟨A,off,none⟩)=>(hown.lt A (by rw [h1];rfl)).2;have hzW:w.heap.size<W.heap.size:=lt_of_block p0;have hz1:=hb1.size;refine aI (fun W4 hW4=>?_);have hb4:Below w1.heap.size w1 W4:=by rw [hW4.out];go_grown
 have q4:W4.heap[w1.heap.size]?=some (.cells #[.slice a l.length c] 54 (0,0)):=by rw [hW4.out];exact (((bh _ _).alloc (ar _) _).block _ (by simp)).trans (aY _ _)
 have e4:W4.heap[w1.heap.size+1]?=some (.cells #[.int .i64 0] 36 (0,0)):=by rw [hW4.out];exact eY _ _ _
 clear hW4;have hD4:=(hDW.below hb1).below hb4;have p4:=(hb4.block _ (by omega)).trans ((hb1.block _ hzW).trans p0);have K4:CkX F d b (S,0) (w1.heap.size+1) w.heap.size w1.heap.size a l c W4:=⟨⟨_,hD4⟩,e4,p4,q4,BytesIn.kept hin hb4,fun h=>by have:=(hF _ h).2;omega,fun h=>by have:=(hF _ h).2;omega,fun h=>by have:=(hF _ h).2;omega,fun A off h1 _=>⟨fun h=>by have:=(hF _ h).2;have:=hlt A off h1;omega,by have:=VO A off h1;omega⟩,by omega,by omega⟩;have UV:Below w.heap.size w W4:=below2 (below2 hbt hb1) hb4;obtain ⟨E,hE⟩:∃ E,E=w1.heap.size+1:=⟨_,rfl⟩;obtain ⟨Q,hQ⟩:∃ Q,Q=w1.heap.size:=⟨_,rfl⟩;have hES:w.heap.size<=E:=by omega
 rw [<- hE,<- hQ] at K4 ⊢;clear hE hQ hD4 p4 q4 e4 hlt VO hin hown hb1 hb4 hDW hR c0 p0 hbt hz1 hzW HBW;obtain ⟨D4,hD4⟩:=K4.dk;have e0:=dV K4.e;have c0:=(dV K4.p).1;obtain ⟨e0,ef0⟩:=e0;have HE1:=aq (fun (X:World) (h2:Fr F W4 X)=>(h2.block E (lt_of_block K4.e) K4.nE).trans K4.e);go_upto_region 7 with (go_at_call 25;(with_reducible refine (HRm.out _ _ hD4).mono ?_);rintro x w5 ⟨rfl,⟨D5,hd5⟩,hf5⟩;have e5c:=HE1.out _ hf5;obtain ⟨e5,e5f⟩:=dV e5c)
 clear HRm hD4 HE1 e0 ef0 c0;have UQ:Fr F w w5:=(Fr.of_below UV).again hf5;have XL:=UQ.size;have hz4:=UV.size;have HT:=aq (fun (W8:World) (Oy:Fr (isR E) w5 W8) (e8:W8.heap[E]?=some (.cells #[.int .i64 (rmS S).2] 36 (0,0)))=>ba (K4.stepG (r':=rmS S) (by
  have h9:(rmS S).1=S5:=by
   rw [HRS.out];split <;> rfl
  rw [h9];exact hd5) hf5 Oy e8) (UQ.trans (Oy.mono fun k _ hk=>bd (by rw [show k=E from hk];exact hES))))
 have hG:∀ k,grow F W4 k->F k\/w.heap.size<=k:=fun k hk=>by rcases hk with hk | hk;exact bb hk;exact bd (Nat.le_trans hz4 hk)
 have HC:=aq e5c;clear K4 hd5 hf5 UQ UV e5c;by_cases hz:e5v=10
 ·subst hz
  rw [if_pos rfl] at HRS;have h2:(rmS S).2=0:=by rw [HRS.out]
  rw [h2] at HT;clear h2;go_upto_region 9 with fail
  refine aI (fun W8 hW8=>?_);have Oy:Fr (isR E) w5 W8:=by rw [hW8.out];exact Fr.setCell (S:=isR E) (p:=⟨E,0,none⟩) (Fr.setCell (S:=isR E) (p:=⟨E,0,none⟩) (Fr.refl _ _) (bd rfl) _) (bd rfl) _
  have e8:W8.heap[E]?=some (.cells #[.int .i64 0] 36 (0,0)):=by rw [hW8.out];simp [World.setCell,Array.getElem?_modify,HC.out]
  exact z21
 ·have q1:(e5v == 10)=false:=beq_eq_false_iff_ne.2 hz
  rw [if_neg hz] at HRS;have h2:(rmS S).2=e5v:=by rw [HRS.out]
  rw [h2] at HT;clear h2 hz;go_upto_region 9 with fail
  refine aI (fun W8 hW8=>?_);have Oy:Fr (isR E) w5 W8:=by rw [hW8.out];exact Fr.setCell (S:=isR E) (p:=⟨E,0,none⟩) (Fr.refl _ _) (bd rfl) _
  have e8:W8.heap[E]?=some (.cells #[.int .i64 e5v] 36 (0,0)):=by rw [hW8.out];simp [World.setCell,Array.getElem?_modify,HC.out]
  exact z21
end Go.Proofs.YthphepeniaemoaaGreat
